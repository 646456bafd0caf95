
/-
  The walks of mat and ellip.
-/
import Derived.Test.YtbepibdjlajppaaDoorSqr
set_option linter.unusedVariables false
set_option linter.unusedSimpArgs false
namespace Go.Proofs.YtbepibdjlajppaaDoor
open Go Go.RowKit Sx

/-- so great at most: 2^200 -/
theorem zt {z : Int} (h : z.natAbs ≤ 1606938044258990275541962092341162602522202993782792835301376) : z.natAbs < Top := by
  have : (2 : Nat) ^ 201 < Top := Nat.pow_lt_pow_right (a := 2) (by decide) (by decide : 201 < TopBits)
  have e : (2 : Nat) ^ 201 = 3213876088517980551083924184682325205044405987565585670602752 := by decide
  omega
theorem zb {z : Int} (h : z.natAbs ≤ 1606938044258990275541962092341162602522202993782792835301376) : z.natAbs < Bs ^ 16 := Nat.lt_trans (zt h) top_lt
theorem mulB {a b : Int} {m n : Nat} (ha : a.natAbs ≤ m) (hbb : b.natAbs ≤ n) : (a * b).natAbs ≤ m * n := by rw [Int.natAbs_mul]; exact Nat.mul_le_mul ha hbb
def withinP (m x y : Int) : Prop := (-m ≤ x ∧ x ≤ m) ∧ (-m ≤ y ∧ y ≤ m)
instance (m x y : Int) : Decidable (withinP m x y) := by unfold withinP; infer_instance
/-- 2^46 -/
def mayP (cx cy a b d : Int) : Prop := withinP 4194304 cx cy ∧ (1 ≤ a ∧ a ≤ 70368744177664) ∧ (1 ≤ d ∧ d ≤ 70368744177664) ∧ (-70368744177664 ≤ b ∧ b ≤ 70368744177664) ∧ 0 < a * d - b * b
instance (cx cy a b d : Int) : Decidable (mayP cx cy a b d) := by unfold mayP; infer_instance
def psdP (a b d : Int) : Prop := 0 ≤ a ∧ 0 ≤ d ∧ 0 ≤ a * d - b * b
instance (a b d : Int) : Decidable (psdP a b d) := by unfold psdP; infer_instance
def holdsP (a b d x y : Int) : Prop := psdP (a - x * x) (b - x * y) (d - y * y)
instance (a b d x y : Int) : Decidable (holdsP a b d x y) := by unfold holdsP; infer_instance
def inP (cx cy a b d x y : Int) : Prop := mayP cx cy a b d ∧ withinP 1073741824 x y ∧ holdsP a b d (x - cx) (y - cy)
instance (cx cy a b d x y : Int) : Decidable (inP cx cy a b d x y) := by unfold inP; infer_instance
set_option maxRecDepth 100000 in
theorem within_x (x y m : Int) (hm : 0 ≤ m ∧ m ≤ 1152921504606846976) (w : World) : Calls Tryd.prog 21 #[.agg #[.int .i64 x, .int .i64 y], .int .i64 m] w fun e w' => e = .returned (.bool (decide (withinP m x y))) ∧ Below w.heap.size w w' := by
  have hw := i64s (0 - m) (by omega) (by omega)
  refine calls_pure (G := tys) w tysOK mixed Tryd.func21 (by rfl) (by first | rfl | (simp only [List.all_cons, List.all_nil, plain_wz, plain_lim, plain_wi]; rfl)) (by first | exact plain3_wz _ | exact plain3_wi _ _ _ | rfl | (simp only [plain3, List.all_cons, List.all_nil, plain_wz, plain_lim, plain_wi]; rfl)) ?_
  repeat' (refine N.go ?_; first | with_reducible refine N.obl (by decide) ?_ | with_reducible refine N.obl (flat_wi _ _ _) ?_ | with_reducible refine N.obl (flat_lim _ _) ?_ | with_reducible refine N.eq ?_ | with_reducible refine N.obl rfl ?_ | with_reducible refine N.obl ⟨by kernel_rfl, by kernel_rfl⟩ ?_ | with_reducible refine N.alt ?_ | with_reducible refine N.forkT ?_ | with_reducible refine N.forkF ?_ | with_reducible refine N.fork (fun hb => ?_) (fun hb => ?_))
  all_goals
    refine boolD ?_
    try rw [hw] at *
    simp only [decide_eq_true_eq, decide_eq_false_iff_not, Bool.false_eq_true, false_iff, true_iff, iff_true, iff_false, reduceCtorEq, not_true_eq_false, not_false_eq_true, ge_iff_le, gt_iff_lt] at *
    try try rw [hw] at *
    simp only [withinP, psdP, mayP] at *
    omega
theorem cWithin (x y m : Int) (h : List (Option Chunk)) (hm : 0 ≤ m ∧ m ≤ 1152921504606846976) : CallOK Tryd.prog 21 [.agg #[.int .i64 x, .int .i64 y], .int .i64 m] h (.bool (decide (withinP m x y))) [] [] :=
  call_pure (by first | rfl | (simp only [List.all_cons, List.all_nil, plain_wz]; rfl)) (by first | rfl | exact plain3_wz _) (Tryd.call21 _) (within_x x y m hm)
set_option maxRecDepth 100000 in
theorem maypoint_x (x y : Int)  (w : World) : Calls Tryd.prog 12 #[.agg #[.int .i64 x, .int .i64 y]] w fun e w' => e = .returned (.bool (decide (withinP 4194304 x y))) ∧ Below w.heap.size w w' := by
  refine calls_pure (G := tys) w tysOK mixed Tryd.func12 (by rfl) (by first | rfl | (simp only [List.all_cons, List.all_nil, plain_wz, plain_lim, plain_wi]; rfl)) (by first | exact plain3_wz _ | exact plain3_wi _ _ _ | rfl | (simp only [plain3, List.all_cons, List.all_nil, plain_wz, plain_lim, plain_wi]; rfl)) ?_
  repeat' (refine N.go ?_; first | with_reducible refine N.obl (by decide) ?_ | with_reducible refine N.obl (flat_wi _ _ _) ?_ | with_reducible refine N.obl (flat_lim _ _) ?_ | with_reducible refine N.eq ?_ | with_reducible refine N.obl rfl ?_ | with_reducible refine N.obl ⟨by kernel_rfl, by kernel_rfl⟩ ?_ | with_reducible refine N.alt ?_ | with_reducible refine N.forkT ?_ | with_reducible refine N.forkF ?_ | with_reducible refine N.call (cWithin _ _ _ _ (by decide)) ?_)
  all_goals rfl
theorem cMayPoint (x y : Int) (h : List (Option Chunk))  : CallOK Tryd.prog 12 [.agg #[.int .i64 x, .int .i64 y]] h (.bool (decide (withinP 4194304 x y))) [] [] :=
  call_pure (by first | rfl | (simp only [List.all_cons, List.all_nil, plain_wz]; rfl)) (by first | rfl | exact plain3_wz _) (Tryd.call12 _) (maypoint_x x y )
set_option maxRecDepth 100000 in
theorem i63 {n : Int} (h : n.natAbs ≤ 9223372036854775807) : -9223372036854775808 ≤ n ∧ n < 9223372036854775808 := by omega
set_option maxRecDepth 100000 in
theorem times_x (a b : Int) (ha : a.natAbs ≤ 9223372036854775807) (hbb : b.natAbs ≤ 9223372036854775807) (w : World) : Calls Tryd.prog 37 #[.int .i64 a, .int .i64 b] w fun e w' => e = .returned (wz (a * b)) ∧ Below w.heap.size w w' := by
  have h1 := mulB ha hbb
  refine calls_pure (G := tys) w tysOK mixed Tryd.func37 (by rfl) (by first | rfl | (simp only [List.all_cons, List.all_nil, plain_wz, plain_lim, plain_wi]; rfl)) (by first | exact plain3_wz _ | exact plain3_wi _ _ _ | rfl | (simp only [plain3, List.all_cons, List.all_nil, plain_wz, plain_lim, plain_wi]; rfl)) ?_
  repeat' (refine N.go ?_; first | with_reducible refine N.obl (by decide) ?_ | with_reducible refine N.obl (flat_wi _ _ _) ?_ | with_reducible refine N.obl (flat_lim _ _) ?_ | with_reducible refine N.eq ?_ | with_reducible refine N.obl rfl ?_ | with_reducible refine N.obl ⟨by kernel_rfl, by kernel_rfl⟩ ?_ | with_reducible refine N.alt ?_ | with_reducible refine N.forkT ?_ | with_reducible refine N.forkF ?_ | with_reducible refine N.call (cOfz _ _ (by omega) (by omega)) ?_ | with_reducible refine N.call (cMulz _ _ _ (zb (by omega)) (zb (by omega)) (zt (Nat.le_trans h1 (by decide)))) ?_)
  all_goals rfl
theorem cTimes (a b : Int) (h : List (Option Chunk)) (ha : a.natAbs ≤ 9223372036854775807) (hbb : b.natAbs ≤ 9223372036854775807) : CallOK Tryd.prog 37 [.int .i64 a, .int .i64 b] h (wz (a * b)) [] [] :=
  call_pure (by first | rfl | (simp only [List.all_cons, List.all_nil, plain_wz]; rfl)) (by first | rfl | exact plain3_wz _) (Tryd.call37 _) (times_x a b ha hbb)
set_option maxRecDepth 100000 in
theorem mdet_x (a b d : Int) (ha : a.natAbs ≤ 18446744073709551616) (hbb : b.natAbs ≤ 18446744073709551616) (hd : d.natAbs ≤ 18446744073709551616) (w : World) : Calls Tryd.prog 22 #[wz a, wz b, wz d] w fun e w' => e = .returned (wz (a * d - b * b)) ∧ Below w.heap.size w w' := by
  have h1 := mulB ha hd
  have h2 := mulB hbb hbb
  refine calls_pure (G := tys) w tysOK mixed Tryd.func22 (by rfl) (by first | rfl | (simp only [List.all_cons, List.all_nil, plain_wz, plain_lim, plain_wi]; rfl)) (by first | exact plain3_wz _ | exact plain3_wi _ _ _ | rfl | (simp only [plain3, List.all_cons, List.all_nil, plain_wz, plain_lim, plain_wi]; rfl)) ?_
  repeat' (refine N.go ?_; first | with_reducible refine N.obl (by decide) ?_ | with_reducible refine N.obl (flat_wi _ _ _) ?_ | with_reducible refine N.obl (flat_lim _ _) ?_ | with_reducible refine N.eq ?_ | with_reducible refine N.obl rfl ?_ | with_reducible refine N.obl ⟨by kernel_rfl, by kernel_rfl⟩ ?_ | with_reducible refine N.alt ?_ | with_reducible refine N.forkT ?_ | with_reducible refine N.forkF ?_ | with_reducible refine N.call (cMulz _ _ _ (zb (by omega)) (zb (by omega)) (zt (Nat.le_trans (by assumption) (by decide)))) ?_ | with_reducible refine N.call (cSubz _ _ _ (zt (Nat.le_trans h1 (by decide))) (zt (Nat.le_trans h2 (by decide))) (zt (by omega))) ?_)
  all_goals rfl
theorem cDetw (a b d : Int) (h : List (Option Chunk)) (ha : a.natAbs ≤ 18446744073709551616) (hbb : b.natAbs ≤ 18446744073709551616) (hd : d.natAbs ≤ 18446744073709551616) : CallOK Tryd.prog 22 [wz a, wz b, wz d] h (wz (a * d - b * b)) [] [] :=
  call_pure (by first | rfl | (simp only [List.all_cons, List.all_nil, plain_wz]; rfl)) (by first | rfl | exact plain3_wz _) (Tryd.call22 _) (mdet_x a b d ha hbb hd)
set_option maxRecDepth 100000 in
theorem mpsd_x (a b d : Int) (ha : a.natAbs ≤ 18446744073709551616) (hbb : b.natAbs ≤ 18446744073709551616) (hd : d.natAbs ≤ 18446744073709551616) (w : World) : Calls Tryd.prog 38 #[wz a, wz b, wz d] w fun e w' => e = .returned (.bool (decide (psdP a b d))) ∧ Below w.heap.size w w' := by
  have h1 := mulB ha hd
  have h2 := mulB hbb hbb
  have s1 := sgn_nonneg a
  have s2 := sgn_nonneg d
  have s3 := sgn_nonneg (a * d - b * b)
  refine calls_pure (G := tys) w tysOK mixed Tryd.func38 (by rfl) (by first | rfl | (simp only [List.all_cons, List.all_nil, plain_wz, plain_lim, plain_wi]; rfl)) (by first | exact plain3_wz _ | exact plain3_wi _ _ _ | rfl | (simp only [plain3, List.all_cons, List.all_nil, plain_wz, plain_lim, plain_wi]; rfl)) ?_
  repeat' (refine N.go ?_; first | with_reducible refine N.obl (by decide) ?_ | with_reducible refine N.obl (flat_wi _ _ _) ?_ | with_reducible refine N.obl (flat_lim _ _) ?_ | with_reducible refine N.eq ?_ | with_reducible refine N.obl rfl ?_ | with_reducible refine N.obl ⟨by kernel_rfl, by kernel_rfl⟩ ?_ | with_reducible refine N.alt ?_ | with_reducible refine N.forkT ?_ | with_reducible refine N.forkF ?_ | with_reducible refine N.call (cDetw _ _ _ _ ha hbb hd) ?_ | with_reducible refine N.call (cSign _ _ (zt (by omega))) ?_ | with_reducible refine N.fork (fun hb => ?_) (fun hb => ?_))
  all_goals
    refine boolD ?_
    simp only [decide_eq_true_eq, decide_eq_false_iff_not, Bool.false_eq_true, false_iff, true_iff, iff_true, iff_false, reduceCtorEq, not_true_eq_false, not_false_eq_true, ge_iff_le, gt_iff_lt] at *
    try simp only [withinP, psdP, mayP] at *
    omega
theorem cPsdw (a b d : Int) (h : List (Option Chunk)) (ha : a.natAbs ≤ 18446744073709551616) (hbb : b.natAbs ≤ 18446744073709551616) (hd : d.natAbs ≤ 18446744073709551616) : CallOK Tryd.prog 38 [wz a, wz b, wz d] h (.bool (decide (psdP a b d))) [] [] :=
  call_pure (by first | rfl | (simp only [List.all_cons, List.all_nil, plain_wz]; rfl)) (by first | rfl | exact plain3_wz _) (Tryd.call38 _) (mpsd_x a b d ha hbb hd)
set_option maxRecDepth 100000 in
theorem Det_x (a b d : Int) (ha : a.natAbs ≤ 9223372036854775807) (hbb : b.natAbs ≤ 9223372036854775807) (hd : d.natAbs ≤ 9223372036854775807) (w : World) : Calls Tryd.prog 14 #[.agg #[.int .i64 a, .int .i64 b, .int .i64 d]] w fun e w' => e = .returned (wz (a * d - b * b)) ∧ Below w.heap.size w w' := by
  refine calls_pure (G := tys) w tysOK mixed Tryd.func14 (by rfl) (by first | rfl | (simp only [List.all_cons, List.all_nil, plain_wz, plain_lim, plain_wi]; rfl)) (by first | exact plain3_wz _ | exact plain3_wi _ _ _ | rfl | (simp only [plain3, List.all_cons, List.all_nil, plain_wz, plain_lim, plain_wi]; rfl)) ?_
  repeat' (refine N.go ?_; first | with_reducible refine N.obl (by decide) ?_ | with_reducible refine N.obl (flat_wi _ _ _) ?_ | with_reducible refine N.obl (flat_lim _ _) ?_ | with_reducible refine N.eq ?_ | with_reducible refine N.obl rfl ?_ | with_reducible refine N.obl ⟨by kernel_rfl, by kernel_rfl⟩ ?_ | with_reducible refine N.alt ?_ | with_reducible refine N.forkT ?_ | with_reducible refine N.forkF ?_ | with_reducible refine N.call (cOfz _ _ (by omega) (by omega)) ?_ | with_reducible refine N.call (cDetw _ _ _ _ (by omega) (by omega) (by omega)) ?_)
  all_goals rfl
theorem cDet (a b d : Int) (h : List (Option Chunk)) (ha : a.natAbs ≤ 9223372036854775807) (hbb : b.natAbs ≤ 9223372036854775807) (hd : d.natAbs ≤ 9223372036854775807) : CallOK Tryd.prog 14 [.agg #[.int .i64 a, .int .i64 b, .int .i64 d]] h (wz (a * d - b * b)) [] [] :=
  call_pure (by first | rfl | (simp only [List.all_cons, List.all_nil, plain_wz]; rfl)) (by first | rfl | exact plain3_wz _) (Tryd.call14 _) (Det_x a b d ha hbb hd)
set_option maxRecDepth 100000 in
theorem less_x (n x y : Int) (hn : n.natAbs ≤ 140737488355328) (hx : x.natAbs ≤ 2147483648) (hy : y.natAbs ≤ 2147483648) (w : World) : Calls Tryd.prog 36 #[.int .i64 n, .int .i64 x, .int .i64 y] w fun e w' => e = .returned (wz (n - x * y)) ∧ Below w.heap.size w w' := by
  have h1 := mulB hx hy
  refine calls_pure (G := tys) w tysOK mixed Tryd.func36 (by rfl) (by first | rfl | (simp only [List.all_cons, List.all_nil, plain_wz, plain_lim, plain_wi]; rfl)) (by first | exact plain3_wz _ | exact plain3_wi _ _ _ | rfl | (simp only [plain3, List.all_cons, List.all_nil, plain_wz, plain_lim, plain_wi]; rfl)) ?_
  repeat' (refine N.go ?_; first | with_reducible refine N.obl (by decide) ?_ | with_reducible refine N.obl (flat_wi _ _ _) ?_ | with_reducible refine N.obl (flat_lim _ _) ?_ | with_reducible refine N.eq ?_ | with_reducible refine N.obl rfl ?_ | with_reducible refine N.obl ⟨by kernel_rfl, by kernel_rfl⟩ ?_ | with_reducible refine N.alt ?_ | with_reducible refine N.forkT ?_ | with_reducible refine N.forkF ?_ | with_reducible refine N.call (cOfz _ _ (by omega) (by omega)) ?_ | with_reducible refine N.call (cTimes _ _ _ (by omega) (by omega)) ?_ | with_reducible refine N.call (cSubz _ _ _ (zt (by omega)) (zt (Nat.le_trans h1 (by decide))) (zt (by omega))) ?_)
  all_goals rfl
theorem cLessw (n x y : Int) (h : List (Option Chunk)) (hn : n.natAbs ≤ 140737488355328) (hx : x.natAbs ≤ 2147483648) (hy : y.natAbs ≤ 2147483648) : CallOK Tryd.prog 36 [.int .i64 n, .int .i64 x, .int .i64 y] h (wz (n - x * y)) [] [] :=
  call_pure (by first | rfl | (simp only [List.all_cons, List.all_nil, plain_wz]; rfl)) (by first | rfl | exact plain3_wz _) (Tryd.call36 _) (less_x n x y hn hx hy)
set_option maxRecDepth 100000 in
theorem Holds_x (a b d x y : Int) (ha : a.natAbs ≤ 140737488355328) (hbb : b.natAbs ≤ 140737488355328) (hd : d.natAbs ≤ 140737488355328) (hx : x.natAbs ≤ 2147483648) (hy : y.natAbs ≤ 2147483648) (w : World) : Calls Tryd.prog 25 #[.agg #[.int .i64 a, .int .i64 b, .int .i64 d], .agg #[.int .i64 x, .int .i64 y]] w fun e w' => e = .returned (.bool (decide (holdsP a b d x y))) ∧ Below w.heap.size w w' := by
  have h1 := mulB hx hx
  have h2 := mulB hx hy
  have h3 := mulB hy hy
  refine calls_pure (G := tys) w tysOK mixed Tryd.func25 (by rfl) (by first | rfl | (simp only [List.all_cons, List.all_nil, plain_wz, plain_lim, plain_wi]; rfl)) (by first | exact plain3_wz _ | exact plain3_wi _ _ _ | rfl | (simp only [plain3, List.all_cons, List.all_nil, plain_wz, plain_lim, plain_wi]; rfl)) ?_
  repeat' (refine N.go ?_; first | with_reducible refine N.obl (by decide) ?_ | with_reducible refine N.obl (flat_wi _ _ _) ?_ | with_reducible refine N.obl (flat_lim _ _) ?_ | with_reducible refine N.eq ?_ | with_reducible refine N.obl rfl ?_ | with_reducible refine N.obl ⟨by kernel_rfl, by kernel_rfl⟩ ?_ | with_reducible refine N.alt ?_ | with_reducible refine N.forkT ?_ | with_reducible refine N.forkF ?_ | with_reducible refine N.call (cLessw _ _ _ _ (by assumption) (by assumption) (by assumption)) ?_ | with_reducible refine N.call (cPsdw _ _ _ _ (by omega) (by omega) (by omega)) ?_)
  all_goals rfl
theorem cHolds (a b d x y : Int) (h : List (Option Chunk)) (ha : a.natAbs ≤ 140737488355328) (hbb : b.natAbs ≤ 140737488355328) (hd : d.natAbs ≤ 140737488355328) (hx : x.natAbs ≤ 2147483648) (hy : y.natAbs ≤ 2147483648) : CallOK Tryd.prog 25 [.agg #[.int .i64 a, .int .i64 b, .int .i64 d], .agg #[.int .i64 x, .int .i64 y]] h (.bool (decide (holdsP a b d x y))) [] [] :=
  call_pure (by first | rfl | (simp only [List.all_cons, List.all_nil, plain_wz]; rfl)) (by first | rfl | exact plain3_wz _) (Tryd.call25 _) (Holds_x a b d x y ha hbb hd hx hy)
set_option maxRecDepth 100000 in
theorem May_x (cx cy a b d : Int)  (w : World) : Calls Tryd.prog 6 #[.agg #[.int .i64 cx, .int .i64 cy, .int .i64 a, .int .i64 b, .int .i64 d]] w fun e w' => e = .returned (.bool (decide (mayP cx cy a b d))) ∧ Below w.heap.size w w' := by
  have s1 := sgn_pos (a * d - b * b)
  refine calls_pure (G := tys) w tysOK mixed Tryd.func6 (by rfl) (by first | rfl | (simp only [List.all_cons, List.all_nil, plain_wz, plain_lim, plain_wi]; rfl)) (by first | exact plain3_wz _ | exact plain3_wi _ _ _ | rfl | (simp only [plain3, List.all_cons, List.all_nil, plain_wz, plain_lim, plain_wi]; rfl)) ?_
  repeat' (refine N.go ?_; first | with_reducible refine N.obl (by decide) ?_ | with_reducible refine N.obl (flat_wi _ _ _) ?_ | with_reducible refine N.obl (flat_lim _ _) ?_ | with_reducible refine N.eq ?_ | with_reducible refine N.obl rfl ?_ | with_reducible refine N.obl ⟨by kernel_rfl, by kernel_rfl⟩ ?_ | with_reducible refine N.alt ?_ | with_reducible refine N.forkT ?_ | with_reducible refine N.forkF ?_ | with_reducible refine N.call (cMayPoint _ _ _) ?_ | with_reducible refine N.call (cDet _ _ _ _ (by simp only [decide_eq_true_eq, decide_eq_false_iff_not] at *; omega) (by simp only [decide_eq_true_eq, decide_eq_false_iff_not] at *; omega) (by simp only [decide_eq_true_eq, decide_eq_false_iff_not] at *; omega)) ?_ | with_reducible refine N.call (cSign _ _ (zt (by simp only [decide_eq_true_eq, decide_eq_false_iff_not] at *; have h1 := mulB (a := a) (b := d) (m := 70368744177664) (n := 70368744177664) (by omega) (by omega); have h2 := mulB (a := b) (b := b) (m := 70368744177664) (n := 70368744177664) (by omega) (by omega); omega))) ?_ | with_reducible refine N.fork (fun hb => ?_) (fun hb => ?_))
  all_goals
    refine boolD ?_
    simp only [decide_eq_true_eq, decide_eq_false_iff_not, Bool.false_eq_true, false_iff, true_iff, iff_true, iff_false, reduceCtorEq, not_true_eq_false, not_false_eq_true, ge_iff_le, gt_iff_lt] at *
    try simp only [withinP, psdP, mayP] at *
    omega
theorem cEMay (cx cy a b d : Int) (h : List (Option Chunk))  : CallOK Tryd.prog 6 [.agg #[.int .i64 cx, .int .i64 cy, .int .i64 a, .int .i64 b, .int .i64 d]] h (.bool (decide (mayP cx cy a b d))) [] [] :=
  call_pure (by first | rfl | (simp only [List.all_cons, List.all_nil, plain_wz]; rfl)) (by first | rfl | exact plain3_wz _) (Tryd.call6 _) (May_x cx cy a b d )
set_option maxRecDepth 100000 in
theorem may_b {cx cy a b d : Int} (h : mayP cx cy a b d) : (cx.natAbs ≤ 4194304 ∧ cy.natAbs ≤ 4194304) ∧ a.natAbs ≤ 140737488355328 ∧ b.natAbs ≤ 140737488355328 ∧ d.natAbs ≤ 140737488355328 := by
  unfold mayP withinP at h; omega
set_option maxRecDepth 100000 in
theorem cHoldsz (a b d x y x' y' : Int) (h : List (Option Chunk)) (e1 : x' = x) (e2 : y' = y) (ha : a.natAbs ≤ 140737488355328) (hbb : b.natAbs ≤ 140737488355328) (hd : d.natAbs ≤ 140737488355328) (hx : x.natAbs ≤ 2147483648) (hy : y.natAbs ≤ 2147483648) : CallOK Tryd.prog 25 [.agg #[.int .i64 a, .int .i64 b, .int .i64 d], .agg #[.int .i64 x', .int .i64 y']] h (.bool (decide (holdsP a b d x y))) [] [] := by
  subst e1 e2; exact cHolds a b d x' y' h ha hbb hd hx hy
set_option maxRecDepth 100000 in
theorem In_x (cx cy a b d x y : Int)  (w : World) : Calls Tryd.prog 16 #[.agg #[.int .i64 cx, .int .i64 cy, .int .i64 a, .int .i64 b, .int .i64 d], .agg #[.int .i64 x, .int .i64 y]] w fun e w' => e = .returned (.bool (decide (inP cx cy a b d x y))) ∧ Below w.heap.size w w' := by
  by_cases hm : mayP cx cy a b d
  · by_cases hw : withinP 1073741824 x y
    · obtain ⟨⟨c1, c2⟩, m1, m2, m3⟩ := may_b hm
      have hw1 := hw
      unfold withinP at hw1
      have e1 := i64s (x - cx) (by omega) (by omega)
      have e2 := i64s (y - cy) (by omega) (by omega)
      rw [show decide (inP cx cy a b d x y) = decide (holdsP a b d (x - cx) (y - cy)) from decide_eq_decide.2 ⟨fun h => h.2.2, fun h => ⟨hm, hw, h⟩⟩]
      refine calls_pure (G := tys) w tysOK mixed Tryd.func16 (by rfl) (by first | rfl | (simp only [List.all_cons, List.all_nil, plain_wz]; rfl)) (by first | rfl | exact plain3_wz _ | (simp only [plain3, List.all_cons, List.all_nil, plain_wz]; rfl)) ?_
      repeat' (refine N.go ?_; first | with_reducible refine N.obl (by decide) ?_ | with_reducible refine N.obl (flat_wi _ _ _) ?_ | with_reducible refine N.obl (flat_lim _ _) ?_ | with_reducible refine N.eq ?_ | with_reducible refine N.obl rfl ?_ | with_reducible refine N.obl ⟨by kernel_rfl, by kernel_rfl⟩ ?_ | with_reducible refine N.alt ?_ | with_reducible refine N.forkT ?_ | with_reducible refine N.forkF ?_ | with_reducible refine N.call (cEMay _ _ _ _ _ _) ?_ | with_reducible refine N.call (cWithin _ _ _ _ (by decide)) ?_ | with_reducible refine N.call (cHoldsz _ _ _ (x - cx) (y - cy) _ _ _ e1 e2 m1 m2 m3 (by omega) (by omega)) ?_ | refine N.forkNo (by rw [decide_eq_true (by assumption)]; rfl) ?_ | refine N.forkYes (by rw [decide_eq_false (by assumption)]; rfl) ?_ | refine N.forkYes (decide_eq_true (by assumption)) ?_ | refine N.forkNo (decide_eq_false (by assumption)) ?_)
      all_goals rfl
    · rw [decide_eq_false (fun h : inP cx cy a b d x y => hw h.2.1)]
      refine calls_pure (G := tys) w tysOK mixed Tryd.func16 (by rfl) (by first | rfl | (simp only [List.all_cons, List.all_nil, plain_wz]; rfl)) (by first | rfl | exact plain3_wz _ | (simp only [plain3, List.all_cons, List.all_nil, plain_wz]; rfl)) ?_
      repeat' (refine N.go ?_; first | with_reducible refine N.obl (by decide) ?_ | with_reducible refine N.obl (flat_wi _ _ _) ?_ | with_reducible refine N.obl (flat_lim _ _) ?_ | with_reducible refine N.eq ?_ | with_reducible refine N.obl rfl ?_ | with_reducible refine N.obl ⟨by kernel_rfl, by kernel_rfl⟩ ?_ | with_reducible refine N.alt ?_ | with_reducible refine N.forkT ?_ | with_reducible refine N.forkF ?_ | with_reducible refine N.call (cEMay _ _ _ _ _ _) ?_ | with_reducible refine N.call (cWithin _ _ _ _ (by decide)) ?_ | refine N.forkNo (by rw [decide_eq_true (by assumption)]; rfl) ?_ | refine N.forkYes (by rw [decide_eq_false (by assumption)]; rfl) ?_ | refine N.forkYes (decide_eq_true (by assumption)) ?_ | refine N.forkNo (decide_eq_false (by assumption)) ?_)
      all_goals rfl
  · rw [decide_eq_false (fun h : inP cx cy a b d x y => hm h.1)]
    refine calls_pure (G := tys) w tysOK mixed Tryd.func16 (by rfl) (by first | rfl | (simp only [List.all_cons, List.all_nil, plain_wz]; rfl)) (by first | rfl | exact plain3_wz _ | (simp only [plain3, List.all_cons, List.all_nil, plain_wz]; rfl)) ?_
    repeat' (refine N.go ?_; first | with_reducible refine N.obl (by decide) ?_ | with_reducible refine N.obl (flat_wi _ _ _) ?_ | with_reducible refine N.obl (flat_lim _ _) ?_ | with_reducible refine N.eq ?_ | with_reducible refine N.obl rfl ?_ | with_reducible refine N.obl ⟨by kernel_rfl, by kernel_rfl⟩ ?_ | with_reducible refine N.alt ?_ | with_reducible refine N.forkT ?_ | with_reducible refine N.forkF ?_ | with_reducible refine N.call (cEMay _ _ _ _ _ _) ?_ | with_reducible refine N.call (cWithin _ _ _ _ (by decide)) ?_ | refine N.forkNo (by rw [decide_eq_true (by assumption)]; rfl) ?_ | refine N.forkYes (by rw [decide_eq_false (by assumption)]; rfl) ?_ | refine N.forkYes (decide_eq_true (by assumption)) ?_ | refine N.forkNo (decide_eq_false (by assumption)) ?_)
    all_goals rfl
theorem cIn4 (cx cy a b d x y : Int) (h : List (Option Chunk))  : CallOK Tryd.prog 16 [.agg #[.int .i64 cx, .int .i64 cy, .int .i64 a, .int .i64 b, .int .i64 d], .agg #[.int .i64 x, .int .i64 y]] h (.bool (decide (inP cx cy a b d x y))) [] [] :=
  call_pure (by first | rfl | (simp only [List.all_cons, List.all_nil, plain_wz]; rfl)) (by first | rfl | exact plain3_wz _ | (simp only [plain3, List.all_cons, List.all_nil, plain_wz]; rfl)) (Tryd.call16 _) (In_x cx cy a b d x y )
set_option maxRecDepth 100000 in
abbrev trP (cx cy a b d : Int) : Int := if mayP cx cy a b d then a + d else 0
theorem trP_b (cx cy a b d : Int) : (if mayP cx cy a b d then a + d else 0) < 9223372036854775808 := by
  split
  · rename_i hm; have := may_b hm; omega
  · omega
set_option maxRecDepth 100000 in
theorem mradius_x (r : Int)  (w : World) : Calls Tryd.prog 24 #[.int .i64 r] w fun e w' => e = .returned (.bool (decide (1 ≤ r ∧ r ≤ 4194304))) ∧ Below w.heap.size w w' := by
  refine calls_pure (G := tys) w tysOK mixed Tryd.func24 (by rfl) (by first | rfl | (simp only [List.all_cons, List.all_nil, plain_wz, plain_lim, plain_wi]; rfl)) (by first | exact plain3_wz _ | exact plain3_wi _ _ _ | rfl | (simp only [plain3, List.all_cons, List.all_nil, plain_wz, plain_lim, plain_wi]; rfl)) ?_
  repeat' (refine N.go ?_; first | with_reducible refine N.obl (by decide) ?_ | with_reducible refine N.obl (flat_wi _ _ _) ?_ | with_reducible refine N.obl (flat_lim _ _) ?_ | with_reducible refine N.eq ?_ | with_reducible refine N.obl rfl ?_ | with_reducible refine N.obl ⟨by kernel_rfl, by kernel_rfl⟩ ?_ | with_reducible refine N.alt ?_ | with_reducible refine N.forkT ?_ | with_reducible refine N.forkF ?_ | with_reducible refine N.fork (fun hb => ?_) (fun hb => ?_))
  all_goals
    refine boolD ?_
    simp only [decide_eq_true_eq, decide_eq_false_iff_not, Bool.false_eq_true, false_iff, true_iff, iff_true, iff_false, reduceCtorEq, not_true_eq_false, not_false_eq_true, ge_iff_le, gt_iff_lt] at *
    try simp only [withinP, psdP, mayP] at *
    omega
theorem cRad (r : Int) (h : List (Option Chunk))  : CallOK Tryd.prog 24 [.int .i64 r] h (.bool (decide (1 ≤ r ∧ r ≤ 4194304))) [] [] :=
  call_pure (by first | rfl | (simp only [List.all_cons, List.all_nil, plain_wz]; rfl)) (by first | rfl | exact plain3_wz _) (Tryd.call24 _) (mradius_x r )
set_option maxRecDepth 100000 in
def mmayP (a b d : Int) : Prop := (-2305843009213693952 ≤ a ∧ a ≤ 2305843009213693952) ∧ (-2305843009213693952 ≤ b ∧ b ≤ 2305843009213693952) ∧ (-2305843009213693952 ≤ d ∧ d ≤ 2305843009213693952)
instance (a b d : Int) : Decidable (mmayP a b d) := by unfold mmayP; infer_instance
def leastP (a b d p q r : Int) : Prop := mmayP a b d ∧ mmayP p q r ∧ psdP (a - p) (b - q) (d - r)
instance (a b d p q r : Int) : Decidable (leastP a b d p q r) := by unfold leastP; infer_instance
set_option maxRecDepth 100000 in
def quadZ (a b d x y : Int) : Int := (a * (x * x) + d * (y * y)) + (b * (x * y) + b * (x * y))
set_option maxRecDepth 100000 in
theorem quad_nn {a b d x y : Int} (ha : 1 ≤ a) (hdet : 0 ≤ a * d - b * b) : 0 ≤ quadZ a b d x y := by
  have h1 : 0 ≤ (a * x + b * y) * (a * x + b * y) := by rcases Int.le_total 0 (a * x + b * y) with h | h; exact Int.mul_nonneg h h; exact Int.mul_nonneg_of_nonpos_of_nonpos h h
  have h2 : 0 ≤ (a * d - b * b) * (y * y) := Int.mul_nonneg hdet (by rcases Int.le_total 0 y with h | h; exact Int.mul_nonneg h h; exact Int.mul_nonneg_of_nonpos_of_nonpos h h)
  have e : a * quadZ a b d x y = (a * x + b * y) * (a * x + b * y) + (a * d - b * b) * (y * y) := by unfold quadZ; grind
  refine Int.not_lt.1 fun h => ?_
  have := Int.mul_neg_of_pos_of_neg (by omega : 0 < a) h
  omega
theorem quad_B {a b d x y : Int} (ha : a.natAbs ≤ 140737488355328) (hbb : b.natAbs ≤ 140737488355328) (hd : d.natAbs ≤ 140737488355328) (hx : x.natAbs ≤ 16777216) (hy : y.natAbs ≤ 16777216) : (quadZ a b d x y).natAbs ≤ 158456325028528675187087900672 := by
  have h1 := mulB hx hx
  have h2 := mulB hx hy
  have h3 := mulB hy hy
  have k1 := mulB ha h1
  have k2 := mulB hbb h2
  have k3 := mulB hd h3
  unfold quadZ; omega
def alongN (a b d x y : Int) : Nat := usq (quadZ a b d x y).toNat
set_option maxRecDepth 100000 in
theorem BallY_x (x y r : Int) (hw : withinP 4194304 x y) (hr0 : 1 ≤ r ∧ r ≤ 4194304) (w : World) : Calls Tryd.prog 15 #[.agg #[.int .i64 x, .int .i64 y], .int .i64 r] w fun e w' => e = .returned (.tuple #[.agg #[.int .i64 x, .int .i64 y, .int .i64 (r * r), .int .i64 0, .int .i64 (r * r)], .int .i64 0]) ∧ Below w.heap.size w w' := by
  have k1 := mulB (a := r) (b := r) (m := 4194304) (n := 4194304) (by omega) (by omega)
  have e1 := i64s (r * r) (by omega) (by omega)
  refine calls_pure (G := tys) w tysOK mixed Tryd.func15 (by rfl) (by first | rfl | (simp only [List.all_cons, List.all_nil, plain_wz]; rfl)) (by first | rfl | exact plain3_wz _ | (simp only [plain3, List.all_cons, List.all_nil, plain_wz]; rfl)) ?_
  repeat' (refine N.go ?_; first | with_reducible refine N.obl (by decide) ?_ | with_reducible refine N.obl (flat_wi _ _ _) ?_ | with_reducible refine N.obl (flat_lim _ _) ?_ | with_reducible refine N.eq ?_ | with_reducible refine N.obl rfl ?_ | with_reducible refine N.obl ⟨by kernel_rfl, by kernel_rfl⟩ ?_ | with_reducible refine N.alt ?_ | with_reducible refine N.forkT ?_ | with_reducible refine N.forkF ?_ | with_reducible refine N.call (cMayPoint _ _ _) ?_ | with_reducible refine N.call (cRad _ _) ?_ | refine N.forkNo (by rw [decide_eq_true (by assumption)]; rfl) ?_ | refine N.forkYes (by rw [decide_eq_false (by assumption)]; rfl) ?_ | refine N.forkYes (decide_eq_true (by assumption)) ?_ | refine N.forkNo (decide_eq_false (by assumption)) ?_)
  all_goals (rw [e1])
theorem cBallY (x y r : Int) (h : List (Option Chunk)) (hw : withinP 4194304 x y) (hr0 : 1 ≤ r ∧ r ≤ 4194304) : CallOK Tryd.prog 15 [.agg #[.int .i64 x, .int .i64 y], .int .i64 r] h (.tuple #[.agg #[.int .i64 x, .int .i64 y, .int .i64 (r * r), .int .i64 0, .int .i64 (r * r)], .int .i64 0]) [] [] :=
  call_pure (by first | rfl | (simp only [List.all_cons, List.all_nil, plain_wz]; rfl)) (by first | rfl | exact plain3_wz _ | (simp only [plain3, List.all_cons, List.all_nil, plain_wz]; rfl)) (Tryd.call15 _) (BallY_x x y r hw hr0)
set_option maxRecDepth 100000 in
theorem BallN_x (x y r : Int) (hn : ¬ (withinP 4194304 x y ∧ (1 ≤ r ∧ r ≤ 4194304))) (w : World) : Calls Tryd.prog 15 #[.agg #[.int .i64 x, .int .i64 y], .int .i64 r] w fun e w' => e = .returned (.tuple #[.agg #[.int .i64 0, .int .i64 0, .int .i64 0, .int .i64 0, .int .i64 0], .int .i64 1]) ∧ Below w.heap.size w w' := by
  by_cases hc0 : withinP 4194304 x y
  rotate_left
  · skip
    refine calls_pure (G := tys) w tysOK mixed Tryd.func15 (by rfl) (by first | rfl | (simp only [List.all_cons, List.all_nil, plain_wz]; rfl)) (by first | rfl | exact plain3_wz _ | (simp only [plain3, List.all_cons, List.all_nil, plain_wz]; rfl)) ?_
    repeat' (refine N.go ?_; first | with_reducible refine N.obl (by decide) ?_ | with_reducible refine N.obl (flat_wi _ _ _) ?_ | with_reducible refine N.obl (flat_lim _ _) ?_ | with_reducible refine N.eq ?_ | with_reducible refine N.obl rfl ?_ | with_reducible refine N.obl ⟨by kernel_rfl, by kernel_rfl⟩ ?_ | with_reducible refine N.alt ?_ | with_reducible refine N.forkT ?_ | with_reducible refine N.forkF ?_ | with_reducible refine N.call (cMayPoint _ _ _) ?_ | with_reducible refine N.call (cRad _ _) ?_ | refine N.forkNo (by rw [decide_eq_true (by assumption)]; rfl) ?_ | refine N.forkYes (by rw [decide_eq_false (by assumption)]; rfl) ?_ | refine N.forkYes (decide_eq_true (by assumption)) ?_ | refine N.forkNo (decide_eq_false (by assumption)) ?_)
    all_goals rfl
  have hc1 : ¬ (1 ≤ r ∧ r ≤ 4194304) := fun h => hn ⟨hc0, h⟩
  refine calls_pure (G := tys) w tysOK mixed Tryd.func15 (by rfl) (by first | rfl | (simp only [List.all_cons, List.all_nil, plain_wz]; rfl)) (by first | rfl | exact plain3_wz _ | (simp only [plain3, List.all_cons, List.all_nil, plain_wz]; rfl)) ?_
  repeat' (refine N.go ?_; first | with_reducible refine N.obl (by decide) ?_ | with_reducible refine N.obl (flat_wi _ _ _) ?_ | with_reducible refine N.obl (flat_lim _ _) ?_ | with_reducible refine N.eq ?_ | with_reducible refine N.obl rfl ?_ | with_reducible refine N.obl ⟨by kernel_rfl, by kernel_rfl⟩ ?_ | with_reducible refine N.alt ?_ | with_reducible refine N.forkT ?_ | with_reducible refine N.forkF ?_ | with_reducible refine N.call (cMayPoint _ _ _) ?_ | with_reducible refine N.call (cRad _ _) ?_ | refine N.forkNo (by rw [decide_eq_true (by assumption)]; rfl) ?_ | refine N.forkYes (by rw [decide_eq_false (by assumption)]; rfl) ?_ | refine N.forkYes (decide_eq_true (by assumption)) ?_ | refine N.forkNo (decide_eq_false (by assumption)) ?_)
  all_goals rfl
theorem cBallN (x y r : Int) (h : List (Option Chunk)) (hn : ¬ (withinP 4194304 x y ∧ (1 ≤ r ∧ r ≤ 4194304))) : CallOK Tryd.prog 15 [.agg #[.int .i64 x, .int .i64 y], .int .i64 r] h (.tuple #[.agg #[.int .i64 0, .int .i64 0, .int .i64 0, .int .i64 0, .int .i64 0], .int .i64 1]) [] [] :=
  call_pure (by first | rfl | (simp only [List.all_cons, List.all_nil, plain_wz]; rfl)) (by first | rfl | exact plain3_wz _ | (simp only [plain3, List.all_cons, List.all_nil, plain_wz]; rfl)) (Tryd.call15 _) (BallN_x x y r hn)
set_option maxRecDepth 100000 in
theorem cMayPointz (x y x' y' : Int) (h : List (Option Chunk)) (e1 : x' = x) (e2 : y' = y) : CallOK Tryd.prog 12 [.agg #[.int .i64 x', .int .i64 y']] h (.bool (decide (withinP 4194304 x y))) [] [] := by
  subst e1 e2; exact cMayPoint x' y' h
set_option maxRecDepth 100000 in
theorem cInD (cx cy a b d x y : Int) (v : Bool) (h : List (Option Chunk)) (hv : decide (inP cx cy a b d x y) = v) : CallOK Tryd.prog 16 [.agg #[.int .i64 cx, .int .i64 cy, .int .i64 a, .int .i64 b, .int .i64 d], .agg #[.int .i64 x, .int .i64 y]] h (.bool v) [] [] := by
  rw [← hv]; exact cIn4 cx cy a b d x y h
set_option maxRecDepth 100000 in
theorem awake4_x   (w : World) : Calls Tryd.prog 7 #[] w fun e w' => e = .returned (.bool true) ∧ Below w.heap.size w w' := by
  refine calls_pure (G := tys) w tysOK mixed Tryd.func7 (by rfl) (by first | rfl | (simp only [List.all_cons, List.all_nil, plain_wz, plain_lim, plain_wi]; rfl)) (by first | exact plain3_wz _ | exact plain3_wi _ _ _ | rfl | (simp only [plain3, List.all_cons, List.all_nil, plain_wz, plain_lim, plain_wi]; rfl)) ?_
  repeat' (refine N.go ?_; first | with_reducible refine N.obl (by decide) ?_ | with_reducible refine N.obl (flat_wi _ _ _) ?_ | with_reducible refine N.obl (flat_lim _ _) ?_ | with_reducible refine N.eq ?_ | with_reducible refine N.obl rfl ?_ | with_reducible refine N.obl ⟨by kernel_rfl, by kernel_rfl⟩ ?_ | with_reducible refine N.alt ?_ | with_reducible refine N.forkT ?_ | with_reducible refine N.forkF ?_ | with_reducible refine N.call (cBallY 0 0 5 _ (by decide) (by decide)) ?_ | with_reducible refine N.call (cBallY 0 0 4 _ (by decide) (by decide)) ?_ | with_reducible refine N.call (cInD 0 0 (5 * 5) 0 (5 * 5) 3 4 true _ (by decide)) ?_ | with_reducible refine N.call (cInD 0 0 (4 * 4) 0 (4 * 4) 3 4 false _ (by decide)) ?_ | refine N.forkNo (by decide) ?_ | refine N.forkYes (by decide) ?_)
  all_goals rfl
theorem cAwake4 (h : List (Option Chunk)) : CallOK Tryd.prog 7 [] h (.bool true) [] [] :=
  call_pure rfl rfl (Tryd.call7 _) (awake4_x)
end Go.Proofs.YtbepibdjlajppaaDoor
