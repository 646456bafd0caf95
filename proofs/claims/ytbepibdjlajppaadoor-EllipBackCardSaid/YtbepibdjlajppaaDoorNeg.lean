
/-
  The walks of wide.Div by one digit, of Neg, Int64, narrow, above, MulDiv, MulDivUp (second part).
-/
import Derived.Test.YtbepibdjlajppaaDoorRt1
set_option linter.unusedVariables false
set_option linter.unusedSimpArgs false
namespace Go.Proofs.YtbepibdjlajppaaDoor
open Go Go.RowKit Sx

theorem bs16 {n : Nat} (h : n < 18446744073709551616) : n < Bs ^ 16 := Nat.lt_of_lt_of_le h (Nat.le_self_pow (by decide) Bs)
set_option maxRecDepth 100000 in
theorem neg_x (z : Int) (hz : z.natAbs < Top) (w : World) : Calls Tryd.prog 57 #[wz z] w fun e w' => e = .returned (wz (-z)) ∧ Below w.heap.size w w' := by
  refine calls_pure (G := tys) w tysOK mixed Tryd.func57 (by rfl) (by first | rfl | (simp only [List.all_cons, List.all_nil, plain_wz, plain_lim, plain_wi]; rfl)) (by first | exact plain3_wz _ | exact plain3_wi _ _ _ | rfl | (simp only [plain3, List.all_cons, List.all_nil, plain_wz, plain_lim, plain_wi]; rfl)) ?_
  repeat' (refine N.go ?_; first | with_reducible refine N.obl (flat_wi _ _ _) ?_ | with_reducible refine N.obl (flat_lim _ _) ?_ | with_reducible refine N.eq ?_ | with_reducible refine N.obl rfl ?_ | with_reducible refine N.obl ⟨by kernel_rfl, by kernel_rfl⟩ ?_ | with_reducible refine N.alt ?_ | with_reducible refine N.forkT ?_ | with_reducible refine N.forkF ?_ | with_reducible refine N.call (cMade _ _ _ hz) ?_)
  all_goals
    simp only [wz, Value.agg.injEq, Array.mk.injEq, Int.natAbs_neg]
    congr 1
    by_cases h : z < 0
    · rw [decide_eq_true h, decide_eq_false (by omega : ¬ -z < 0)]; rfl
    · by_cases h0 : z = 0
      · subst h0; rfl
      · rw [decide_eq_false h, decide_eq_true (by omega : -z < 0), decide_eq_true (by omega : z.natAbs ≠ 0)]; rfl
theorem cNeg (z : Int) (h : List (Option Chunk)) (hz : z.natAbs < Top) : CallOK Tryd.prog 57 [wz z] h (wz (-z)) [] [] :=
  call_pure (by simp [plain_wz]) (plain3_wz _) (Tryd.call57 _) (neg_x z hz)

end Go.Proofs.YtbepibdjlajppaaDoor
