/-
  The walks of turn: Norm (split from XTurn3).
-/
import Derived.Test.YtkjeebabcdnjkaaTurnT
set_option linter.unusedVariables false
namespace Go.Proofs.Ytkjeebabcdnjkaa
open Go.RowKit

/-! ### Norm -/
def normN (x y : Int) : Int := cx x y * cx x y + cy x y * cy x y

set_option maxHeartbeats 400000 in
theorem norm_any (x y : Int) (w : World) :
    Calls Try.prog 17 #[.agg #[.int .i64 x, .int .i64 y]] w fun e w' => e = .returned (.int .i64 (normN x y)) ∧ Below w.heap.size w w' := by
  have hB : Below w.heap.size w w := Below.refl _ _
  cases h : stp x y
  · have hn : 0 = normN x y := by unfold normN cx cy; rw [h]; rfl
    have HN := Lib.hid hn
    clear hn
    go_enter Try.func17, Try.ntmps17
    go_wp2_with (first | (go_at_call 24; refine (may_any _ _ _).mono ?_; rintro e w1 ⟨rfl, hb⟩; have hz := hb.size; (try simp at hz); have hB' : Below w.heap.size w w1 := Below.trans (by repeat (first | exact Below.refl _ _ | exact hB | apply Below.drew | refine Below.alloc ?_ (by first | (simp; done) | (simp; omega) | omega) _ | refine Below.setCell ?_ (by first | (simp; done) | (simp; omega) | omega) _)) (hb.mono (by first | (simp; done) | (simp; omega) | omega)); have hB := hB'; clear hB'))
    go_ret
    exact ⟨ret_int HN.out, (by repeat (first | exact Below.refl _ _ | exact hB | apply Below.drew | refine Below.alloc ?_ (by first | (simp; done) | (simp; omega) | omega) _ | refine Below.setCell ?_ (by first | (simp; done) | (simp; omega) | omega) _))⟩
  · have hn : x * x + y * y = normN x y := by unfold normN cx cy; rw [h]; rfl
    have HN := Lib.hid hn
    have hs := stp_iff.1 h
    have b1 := prod_b 4194304 (a := x) (b := x) (by omega) 4194304 (by omega)
    have b2 := prod_b 4194304 (a := y) (b := y) (by omega) 4194304 (by omega)
    clear hn hs
    go_enter Try.func17, Try.ntmps17
    go_wp2_with (first | (go_at_call 24; refine (may_any _ _ _).mono ?_; rintro e w1 ⟨rfl, hb⟩; have hz := hb.size; (try simp at hz); have hB' : Below w.heap.size w w1 := Below.trans (by repeat (first | exact Below.refl _ _ | exact hB | apply Below.drew | refine Below.alloc ?_ (by first | (simp; done) | (simp; omega) | omega) _ | refine Below.setCell ?_ (by first | (simp; done) | (simp; omega) | omega) _)) (hb.mono (by first | (simp; done) | (simp; omega) | omega)); have hB := hB'; clear hB'; have k0 : w1.cell? ⟨w.heap.size, 0, none⟩ = some (.int .i64 x) := (hb.cell (by first | (simp; done) | (simp; omega) | omega)).trans (by first | (go_keep; done) | (go_simp; done)); have k1 : w1.cell? ⟨w.heap.size, 1, none⟩ = some (.int .i64 y) := (hb.cell (by first | (simp; done) | (simp; omega) | omega)).trans (by first | (go_keep; done) | (go_simp; done))))
    go_ret
    exact ⟨ret_int HN.out, (by repeat (first | exact Below.refl _ _ | exact hB | apply Below.drew | refine Below.alloc ?_ (by first | (simp; done) | (simp; omega) | omega) _ | refine Below.setCell ?_ (by first | (simp; done) | (simp; omega) | omega) _))⟩

end Go.Proofs.Ytkjeebabcdnjkaa
