/-
  The walks of turn: whole, To, Quarter, Norm, and of the reference's MayStep; the law's awake.
-/
import Derived.Test.YtkjeebabcdnjkaaTurn
import Derived.Test.YtkjeebabcdnjkaaTurnT
set_option linter.unusedVariables false
namespace Go.Proofs.Ytkjeebabcdnjkaa
open Go.RowKit

theorem maystep_any (x y : Int) (w : World) :
    Calls Try.prog 11 #[.agg #[.int .i64 x, .int .i64 y]] w fun e w' => e = .returned (.bool (stp x y)) ∧ Below w.heap.size w w' := by
  have hB : Below w.heap.size w w := Below.refl _ _
  by_cases a : -4194304 ≤ x
  · by_cases b : x ≤ 4194304
    · by_cases c : -4194304 ≤ y
      · by_cases d : y ≤ 4194304
        all_goals
          go_enter Try.func11, Try.ntmps11
          go_wp2
          go_ret
          first | exact ⟨ret_bool (stp_t (by omega)).symm, (by repeat (first | exact Below.refl _ _ | exact hB | apply Below.drew | refine Below.alloc ?_ (by first | (simp; done) | (simp; omega) | omega) _ | refine Below.setCell ?_ (by first | (simp; done) | (simp; omega) | omega) _))⟩ | exact ⟨ret_bool (stp_f (by omega)).symm, (by repeat (first | exact Below.refl _ _ | exact hB | apply Below.drew | refine Below.alloc ?_ (by first | (simp; done) | (simp; omega) | omega) _ | refine Below.setCell ?_ (by first | (simp; done) | (simp; omega) | omega) _))⟩
      · go_enter Try.func11, Try.ntmps11
        go_wp2
        go_ret
        exact ⟨ret_bool (stp_f (by omega)).symm, (by repeat (first | exact Below.refl _ _ | exact hB | apply Below.drew | refine Below.alloc ?_ (by first | (simp; done) | (simp; omega) | omega) _ | refine Below.setCell ?_ (by first | (simp; done) | (simp; omega) | omega) _))⟩
    · go_enter Try.func11, Try.ntmps11
      go_wp2
      go_ret
      exact ⟨ret_bool (stp_f (by omega)).symm, (by repeat (first | exact Below.refl _ _ | exact hB | apply Below.drew | refine Below.alloc ?_ (by first | (simp; done) | (simp; omega) | omega) _ | refine Below.setCell ?_ (by first | (simp; done) | (simp; omega) | omega) _))⟩
  · go_enter Try.func11, Try.ntmps11
    go_wp2
    go_ret
    exact ⟨ret_bool (stp_f (by omega)).symm, (by repeat (first | exact Below.refl _ _ | exact hB | apply Below.drew | refine Below.alloc ?_ (by first | (simp; done) | (simp; omega) | omega) _ | refine Below.setCell ?_ (by first | (simp; done) | (simp; omega) | omega) _))⟩

end Go.Proofs.Ytkjeebabcdnjkaa
