/-
  The walks of truth: short, MayPoint.
-/
import Derived.Test.YtfpmmahonddpoaaTr3
import Derived.Test.YtfpmmahonddpoaaTurnN
set_option linter.unusedVariables false
set_option linter.unusedSimpArgs false
namespace Go.Proofs.Ytfpmmahonddpoaa
open Go Go.RowKit Sx

theorem eq_point (x y : Operand) (a b c d : Int) : BinIs Try.prog .eql 30 x y (.agg #[.int .i64 a, .int .i64 b]) (.agg #[.int .i64 c, .int .i64 d]) (.bool (a == c && b == d)) :=
  ⟨rfl, rfl, rfl, fun w => by go_simp; by_cases h1 : a = c <;> by_cases h2 : b = d <;> simp [h1, h2]⟩
theorem ne_point (x y : Operand) (a b c d : Int) : BinIs Try.prog .neq 30 x y (.agg #[.int .i64 a, .int .i64 b]) (.agg #[.int .i64 c, .int .i64 d]) (.bool !(a == c && b == d)) :=
  ⟨rfl, rfl, rfl, fun w => by go_simp; by_cases h1 : a = c <;> by_cases h2 : b = d <;> simp [h1, h2]⟩
theorem cmp_zero (u : Int) : ((some (compare u 0) == some Ordering.eq) : Bool) = decide (u = 0) := by
  rcases Int.lt_trichotomy u 0 with g | g | g
  · rw [Int.compare_eq_lt.2 g, decide_eq_false (by omega)]; rfl
  · subst g; rfl
  · rw [Int.compare_eq_gt.2 g, decide_eq_false (by omega)]; rfl
theorem eq_cx (t : TypeId) (x y : Operand) {a b : Nat} {u v : Int} (ha : FZ.W a u) (hb : FZ.W b v) : BinIs Try.prog .eql 57 x y (.complex .f64 a b) (.complex .f64 0 0) (.bool (decide (u = 0) && decide (v = 0))) :=
  ⟨rfl, rfl, rfl, fun w => by
    go_simp
    rw [ha.order w_zero, hb.order w_zero, cmp_zero, cmp_zero]⟩
theorem cTOf (x y : Int) (h : List (Option Chunk)) : CallOK Try.prog 23 [.agg #[.int .i64 x, .int .i64 y]] h (.complex .f64 (ofR x y) (ofI x y)) [] [] := call_pure (by rfl) (by rfl) (Try.call23 _) (fun w => of_any x y w)
theorem cTo (a b : Nat) (h : List (Option Chunk)) : CallOK Try.prog 35 [.complex .f64 a b] h (.tuple #[.agg #[.int .i64 (toX a b), .int .i64 (toY a b)], .bool (toB a b)]) [] [] := call_pure (by rfl) (by rfl) (Try.call35 _) (fun w => to_any a b w)
theorem cNorm (x y : Int) (h : List (Option Chunk)) : CallOK Try.prog 36 [.agg #[.int .i64 x, .int .i64 y]] h (.int .i64 (normN x y)) [] [] := call_pure (by rfl) (by rfl) (Try.call36 _) (fun w => norm_any x y w)
theorem boolD' {a b : Bool} (h : a = true ↔ b = true) : Value.bool a = .bool b := by
  congr 1
  cases b with
  | true => exact h.2 rfl
  | false => rw [← Bool.not_eq_true]; exact fun e => Bool.noConfusion (h.1 e)
/-- Whether a step is short. -/
def shortB (x y most : Int) : Bool := decide (stp x y = true ∧ x * x + y * y ≤ most * most)
theorem norm_stp {x y : Int} (h : stp x y = true) : cx x y = x ∧ cy x y = y := by unfold cx cy; rw [if_pos h, if_pos h]; exact ⟨rfl, rfl⟩
set_option maxRecDepth 100000 in
theorem tshort_x (a b : Nat) (x y most : Int) (ha : FZ.W a x) (hb : FZ.W b y) (hx : -9007199254740992 < x ∧ x < 9007199254740992) (hy : -9007199254740992 < y ∧ y < 9007199254740992) (hm : 0 ≤ most ∧ most ≤ 1000) (w : World) : Calls Try.prog 24 #[.complex .f64 a b, .int .i64 most] w fun e w' => e = .returned (.bool (shortB x y most)) ∧ Below w.heap.size w w' := by
  obtain ⟨e1, e2, e3⟩ := to_w ha hb hx hy
  refine calls_pure (G := tys) w tysOK mixed Try.func24 (by rfl) (by first | rfl | (simp only [List.all_cons, List.all_nil, plain_wz, plain_lim, plain_wi]; rfl)) (by first | exact plain3_wz _ | exact plain3_wi _ _ _ | rfl | (simp only [plain3, List.all_cons, List.all_nil, plain_wz, plain_lim, plain_wi]; rfl)) ?_
  repeat' (refine N.go ?_; first | with_reducible refine N.obl (by decide) ?_ | with_reducible refine N.obl (flat_wi _ _ _) ?_ | with_reducible refine N.obl (flat_lim _ _) ?_ | with_reducible refine N.eq ?_ | with_reducible refine N.obl rfl ?_ | with_reducible refine N.obl ⟨by kernel_rfl, by kernel_rfl⟩ ?_ | with_reducible refine N.forkT ?_ | with_reducible refine N.forkF ?_ | with_reducible refine N.call (cTo _ _ _) ?_ | with_reducible refine N.call (cNorm _ _ _) ?_ | with_reducible refine N.fork (fun hb => ?_) (fun hb => ?_))
  · refine boolD' ?_
    have h1 : stp x y = true := e1.symm.trans hb
    have h2 : stp (cx x y) (cy x y) = true := by rw [(norm_stp h1).1, (norm_stp h1).2]; exact h1
    have h3 : 0 ≤ most * most := Int.mul_nonneg hm.1 hm.1
    have h4 : most * most ≤ 1000 * 1000 := Int.mul_le_mul hm.2 hm.2 hm.1 (by omega)
    rw [e2, e3, i64s _ (by omega) (by omega)]
    unfold normN shortB
    rw [(norm_stp h2).1, (norm_stp h2).2, (norm_stp h1).1, (norm_stp h1).2, h1, decide_eq_true_eq, decide_eq_true_eq]
    exact ⟨fun g => ⟨rfl, g⟩, fun g => g.2⟩
  · unfold shortB
    rw [← e1, hb]; rfl
theorem cShort (a b : Nat) (x y most : Int) (h : List (Option Chunk)) (ha : FZ.W a x) (hb : FZ.W b y) (hx : -9007199254740992 < x ∧ x < 9007199254740992) (hy : -9007199254740992 < y ∧ y < 9007199254740992) (hm : 0 ≤ most ∧ most ≤ 1000) : CallOK Try.prog 24 [.complex .f64 a b, .int .i64 most] h (.bool (shortB x y most)) [] [] :=
  call_pure rfl rfl (Try.call24 _) (tshort_x a b x y most ha hb hx hy hm)
def wiB (x y m : Int) : Prop := -m ≤ x ∧ x ≤ m ∧ -m ≤ y ∧ y ≤ m
instance (x y m : Int) : Decidable (wiB x y m) := by unfold wiB; infer_instance
set_option maxRecDepth 100000 in
theorem twithin_x (x y m : Int) (hm : 0 ≤ m ∧ m ≤ 1000000000) (w : World) : Calls Try.prog 37 #[.agg #[.int .i64 x, .int .i64 y], .int .i64 m] w fun e w' => e = .returned (.bool (decide (wiB x y m))) ∧ Below w.heap.size w w' := by
  have hneg : IntKind.i64.wrap (0 - m) = -m := by rw [i64s _ (by omega) (by omega)]; omega
  refine calls_pure (G := tys) w tysOK mixed Try.func37 (by rfl) (by first | rfl | (simp only [List.all_cons, List.all_nil, plain_wz, plain_lim, plain_wi]; rfl)) (by first | exact plain3_wz _ | exact plain3_wi _ _ _ | rfl | (simp only [plain3, List.all_cons, List.all_nil, plain_wz, plain_lim, plain_wi]; rfl)) ?_
  repeat' (refine N.go ?_; first | with_reducible refine N.obl (by decide) ?_ | with_reducible refine N.obl (flat_wi _ _ _) ?_ | with_reducible refine N.obl (flat_lim _ _) ?_ | with_reducible refine N.eq ?_ | with_reducible refine N.obl rfl ?_ | with_reducible refine N.obl ⟨by kernel_rfl, by kernel_rfl⟩ ?_ | with_reducible refine N.forkT ?_ | with_reducible refine N.forkF ?_ | with_reducible refine N.fork (fun hb => ?_) (fun hb => ?_))
  all_goals
    refine boolD ?_
    try rw [hneg] at *
    unfold wiB
    simp only [decide_eq_true_eq, decide_eq_false_iff_not, Bool.false_eq_true, false_iff, true_iff, iff_true, iff_false, reduceCtorEq, not_true_eq_false, not_false_eq_true, ge_iff_le, gt_iff_lt] at *
    omega
theorem cWithin (x y m : Int) (h : List (Option Chunk)) (hm : 0 ≤ m ∧ m ≤ 1000000000) : CallOK Try.prog 37 [.agg #[.int .i64 x, .int .i64 y], .int .i64 m] h (.bool (decide (wiB x y m))) [] [] :=
  call_pure rfl rfl (Try.call37 _) (twithin_x x y m hm)
set_option maxRecDepth 100000 in
theorem tmaypoint_x (x y : Int)  (w : World) : Calls Try.prog 25 #[.agg #[.int .i64 x, .int .i64 y]] w fun e w' => e = .returned (.bool (decide (wiB x y 4194304))) ∧ Below w.heap.size w w' := by
  refine calls_pure (G := tys) w tysOK mixed Try.func25 (by rfl) (by first | rfl | (simp only [List.all_cons, List.all_nil, plain_wz, plain_lim, plain_wi]; rfl)) (by first | exact plain3_wz _ | exact plain3_wi _ _ _ | rfl | (simp only [plain3, List.all_cons, List.all_nil, plain_wz, plain_lim, plain_wi]; rfl)) ?_
  repeat' (refine N.go ?_; first | with_reducible refine N.obl (by decide) ?_ | with_reducible refine N.obl (flat_wi _ _ _) ?_ | with_reducible refine N.obl (flat_lim _ _) ?_ | with_reducible refine N.eq ?_ | with_reducible refine N.obl rfl ?_ | with_reducible refine N.obl ⟨by kernel_rfl, by kernel_rfl⟩ ?_ | with_reducible refine N.forkT ?_ | with_reducible refine N.forkF ?_ | with_reducible refine N.call (cWithin _ _ _ _ (by omega)) ?_)
  all_goals rfl
theorem cMayPoint (x y : Int) (h : List (Option Chunk)) : CallOK Try.prog 25 [.agg #[.int .i64 x, .int .i64 y]] h (.bool (decide (wiB x y 4194304))) [] [] :=
  call_pure rfl rfl (Try.call25 _) (tmaypoint_x x y)
end Go.Proofs.Ytfpmmahonddpoaa
