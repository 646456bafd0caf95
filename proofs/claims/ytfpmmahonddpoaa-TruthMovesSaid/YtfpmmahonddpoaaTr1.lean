/-
  The walks of truth: May, New.
-/
import Derived.Test.YtfpmmahonddpoaaRen
import Derived.Test.YtfpmmahonddpoaaArg
import Derived.Test.YtfpmmahonddpoaaMore
set_option linter.unusedVariables false
set_option linter.unusedSimpArgs false
namespace Go.Proofs.Ytfpmmahonddpoaa
open Go Go.RowKit Sx

theorem i64s (n : Int) (h0 : -9223372036854775808 ≤ n) (h1 : n < 9223372036854775808) : IntKind.i64.wrap n = n := by rw [IntKind.wrap_i64]; omega
theorem boolD {b : Bool} {p : Prop} [Decidable p] (h : b = true ↔ p) : Value.bool b = .bool (decide p) := by
  congr 1
  by_cases hp : p
  · rw [decide_eq_true hp]; exact h.2 hp
  · rw [decide_eq_false hp, ← Bool.not_eq_true]; exact fun e => hp (h.1 e)
theorem lt15 {p : Nat → Prop} (h0 : p 0) (h1 : p 1) (h2 : p 2) (h3 : p 3) (h4 : p 4) (h5 : p 5) (h6 : p 6) (h7 : p 7) (h8 : p 8) (h9 : p 9) (h10 : p 10) (h11 : p 11) (h12 : p 12) (h13 : p 13) (h14 : p 14) : ∀ j, j < 15 → p j := fun j hj => by
  match j, hj with
  | 0, _ => exact h0
  | 1, _ => exact h1
  | 2, _ => exact h2
  | 3, _ => exact h3
  | 4, _ => exact h4
  | 5, _ => exact h5
  | 6, _ => exact h6
  | 7, _ => exact h7
  | 8, _ => exact h8
  | 9, _ => exact h9
  | 10, _ => exact h10
  | 11, _ => exact h11
  | 12, _ => exact h12
  | 13, _ => exact h13
  | 14, _ => exact h14
/-- A config's eleven numbers. -/
abbrev cfgV (c : Nat → Int) : Value := .agg #[.int .i64 (c 0), .int .i64 (c 1), .int .i64 (c 2), .int .i64 (c 3), .int .i64 (c 4), .int .i64 (c 5), .int .i64 (c 6), .int .i64 (c 7), .int .i64 (c 8), .int .i64 (c 9), .int .i64 (c 10)]
/-- A world's fifteen cells. -/
abbrev wch (c : Nat → Int) (p m : Value) (tm st : Int) : Chunk := ⟨true, 15, [(0, 15, .agg #[.int .i64 (c 0), .int .i64 (c 1), .int .i64 (c 2), .int .i64 (c 3), .int .i64 (c 4), .int .i64 (c 5), .int .i64 (c 6), .int .i64 (c 7), .int .i64 (c 8), .int .i64 (c 9), .int .i64 (c 10), p, m, .int .i64 tm, .int .i64 st])]⟩
def mayC (c : Nat → Int) : Prop := (1 ≤ c 0 ∧ c 0 ≤ 64) ∧ (1 ≤ c 1 ∧ c 1 ≤ 64) ∧ (0 ≤ c 2 ∧ c 2 ≤ 1000) ∧ (0 ≤ c 3 ∧ c 3 ≤ 1000) ∧ (0 ≤ c 5 ∧ c 5 ≤ 1000) ∧ (0 ≤ c 4 ∧ c 4 ≤ 100) ∧ (1 ≤ c 6 ∧ c 6 ≤ 1000) ∧ (1 ≤ c 8 ∧ c 8 ≤ 1000) ∧ (1 ≤ c 7 ∧ c 7 ≤ 10000) ∧ (1 ≤ c 9 ∧ c 9 ≤ 100) ∧ (2 ≤ c 10 ∧ c 10 ≤ 140737488355328) ∧ c 9 * (c 6 + 2 * c 4 + 2) ≤ 32767
instance (c : Nat → Int) : Decidable (mayC c) := by unfold mayC; infer_instance
set_option maxRecDepth 100000 in
theorem tin_x (n a b : Int)  (w : World) : Calls Try.prog 26 #[.int .i64 n, .int .i64 a, .int .i64 b] w fun e w' => e = .returned (.bool (decide (a ≤ n ∧ n ≤ b))) ∧ Below w.heap.size w w' := by
  refine calls_pure (G := tys) w tysOK mixed Try.func26 (by rfl) (by first | rfl | (simp only [List.all_cons, List.all_nil, plain_wz, plain_lim, plain_wi]; rfl)) (by first | exact plain3_wz _ | exact plain3_wi _ _ _ | rfl | (simp only [plain3, List.all_cons, List.all_nil, plain_wz, plain_lim, plain_wi]; rfl)) ?_
  repeat' (refine N.go ?_; first | with_reducible refine N.obl (by decide) ?_ | with_reducible refine N.obl (flat_wi _ _ _) ?_ | with_reducible refine N.obl (flat_lim _ _) ?_ | with_reducible refine N.eq ?_ | with_reducible refine N.obl rfl ?_ | with_reducible refine N.obl ⟨by kernel_rfl, by kernel_rfl⟩ ?_ | with_reducible refine N.forkT ?_ | with_reducible refine N.forkF ?_ | with_reducible refine N.fork (fun hb => ?_) (fun hb => ?_))
  all_goals
    refine boolD ?_
    simp only [decide_eq_true_eq, decide_eq_false_iff_not, Bool.false_eq_true, false_iff, true_iff, iff_true, iff_false, reduceCtorEq, not_true_eq_false, not_false_eq_true, ge_iff_le, gt_iff_lt] at *
    omega
theorem cTin (n a b : Int) (h : List (Option Chunk)) : CallOK Try.prog 26 [.int .i64 n, .int .i64 a, .int .i64 b] h (.bool (decide (a ≤ n ∧ n ≤ b))) [] [] :=
  call_pure rfl rfl (Try.call26 _) (tin_x n a b)
theorem cfg_mul {c : Nat → Int} (h1 : 1 ≤ c 6 ∧ c 6 ≤ 1000) (h2 : 0 ≤ c 4 ∧ c 4 ≤ 100) (h3 : 1 ≤ c 9 ∧ c 9 ≤ 100) : IntKind.i64.wrap (c 9 * IntKind.i64.wrap (IntKind.i64.wrap (c 6 + IntKind.i64.wrap (2 * c 4)) + 2)) = c 9 * (c 6 + 2 * c 4 + 2) := by
  rw [i64s (2 * c 4) (by omega) (by omega), i64s (c 6 + 2 * c 4) (by omega) (by omega), i64s (c 6 + 2 * c 4 + 2) (by omega) (by omega)]
  have k1 : 0 ≤ c 9 * (c 6 + 2 * c 4 + 2) := Int.mul_nonneg (by omega) (by omega)
  have k2 : c 9 * (c 6 + 2 * c 4 + 2) ≤ 100 * 1202 := Int.mul_le_mul (by omega) (by omega) (by omega) (by omega)
  exact i64s _ (by omega) (by omega)
set_option maxRecDepth 100000 in
theorem tmay_x (c : Nat → Int)  (w : World) : Calls Try.prog 14 #[cfgV c] w fun e w' => e = .returned (.bool (decide (mayC c))) ∧ Below w.heap.size w w' := by
  refine calls_pure (G := tys) w tysOK mixed Try.func14 (by rfl) (by first | rfl | (simp only [List.all_cons, List.all_nil, plain_wz, plain_lim, plain_wi]; rfl)) (by first | exact plain3_wz _ | exact plain3_wi _ _ _ | rfl | (simp only [plain3, List.all_cons, List.all_nil, plain_wz, plain_lim, plain_wi]; rfl)) ?_
  repeat' (refine N.go ?_; first | with_reducible refine N.obl (by decide) ?_ | with_reducible refine N.obl (flat_wi _ _ _) ?_ | with_reducible refine N.obl (flat_lim _ _) ?_ | with_reducible refine N.eq ?_ | with_reducible refine N.obl rfl ?_ | with_reducible refine N.obl ⟨by kernel_rfl, by kernel_rfl⟩ ?_ | with_reducible refine N.forkT ?_ | with_reducible refine N.forkF ?_ | with_reducible refine N.call (cTin _ _ _ _) ?_ | with_reducible refine N.fork (fun hb => ?_) (fun hb => ?_))
  all_goals
    refine boolD ?_
    simp only [decide_eq_true_eq, decide_eq_false_iff_not, Bool.false_eq_true, false_iff, true_iff, iff_true, iff_false, reduceCtorEq, not_true_eq_false, not_false_eq_true, ge_iff_le, gt_iff_lt] at *
    try rw [cfg_mul (by assumption) (by assumption) (by assumption)]
    unfold mayC
    omega
theorem cTmay (c : Nat → Int) (h : List (Option Chunk)) : CallOK Try.prog 14 [cfgV c] h (.bool (decide (mayC c))) [] [] :=
  call_pure rfl rfl (Try.call14 _) (tmay_x c)
end Go.Proofs.Ytfpmmahonddpoaa
