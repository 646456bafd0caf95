/-
  The walks of the document's Norm, Mul, Dist, Quarter.
-/
import Derived.Test.YtkjeebabcdnjkaaRh
import Derived.Test.YtkjeebabcdnjkaaTurnC
set_option linter.unusedVariables false
set_option linter.unusedSimpArgs false
namespace Go.Proofs.Ytkjeebabcdnjkaa
open Go Go.RowKit Sx

theorem cxT {x y : Int} (h : stp x y = true) : cx x y = x ∧ cy x y = y := by unfold cx cy; rw [if_pos h, if_pos h]; exact ⟨rfl, rfl⟩
theorem cxF {x y : Int} (h : stp x y = false) : cx x y = 0 ∧ cy x y = 0 := by unfold cx cy; rw [h]; exact ⟨rfl, rfl⟩
theorem sqB {d M : Int} (h : -M ≤ d ∧ d ≤ M) : 0 ≤ d * d ∧ d * d ≤ M * M := sq_bound d M h.1 h.2
set_option maxRecDepth 100000 in
theorem norm9_x (x y : Int) (w : World) : Calls Try.prog 21 #[.agg #[.int .i64 x, .int .i64 y]] w fun e w' => e = .returned (.int .i64 (normN x y)) ∧ Below w.heap.size w w' := by
  unfold normN
  cases h : stp x y with
  | false =>
    rw [(cxF h).1, (cxF h).2]
    refine calls_pure (G := tys) w tysOK mixed Try.func21 (by rfl) (by rfl) (by rfl) ?_
    repeat' (refine N.go ?_; first | with_reducible refine N.obl (by decide) ?_ | with_reducible refine N.obl (flat_wi _ _ _) ?_ | with_reducible refine N.obl (flat_lim _ _) ?_ | with_reducible refine N.eq ?_ | with_reducible refine N.obl rfl ?_ | with_reducible refine N.obl ⟨by kernel_rfl, by kernel_rfl⟩ ?_ | with_reducible refine N.forkT ?_ | with_reducible refine N.forkF ?_ | with_reducible refine N.call (cMay _ _ _) ?_ | refine N.forkNo (by rw [h]; rfl) ?_ | refine N.forkYes (by rw [h]; rfl) ?_ | refine N.forkNo (by decide) ?_ | refine N.forkYes (by decide) ?_ | fail_if_success skip)
    all_goals rfl
  | true =>
    have hb := stp_iff.1 h
    have s1 := sqB (M := 4194304) (d := x) (by omega)
    have s2 := sqB (M := 4194304) (d := y) (by omega)
    rw [(cxT h).1, (cxT h).2]
    refine calls_pure (G := tys) w tysOK mixed Try.func21 (by rfl) (by rfl) (by rfl) ?_
    repeat' (refine N.go ?_; first | with_reducible refine N.obl (by decide) ?_ | with_reducible refine N.obl (flat_wi _ _ _) ?_ | with_reducible refine N.obl (flat_lim _ _) ?_ | with_reducible refine N.eq ?_ | with_reducible refine N.obl rfl ?_ | with_reducible refine N.obl ⟨by kernel_rfl, by kernel_rfl⟩ ?_ | with_reducible refine N.forkT ?_ | with_reducible refine N.forkF ?_ | with_reducible refine N.call (cMay _ _ _) ?_ | refine N.forkNo (by rw [h]; rfl) ?_ | refine N.forkYes (by rw [h]; rfl) ?_ | refine N.forkNo (by decide) ?_ | refine N.forkYes (by decide) ?_ | fail_if_success skip)
    all_goals (rw [i64n (x * x) (by omega) (by omega), i64n (y * y) (by omega) (by omega), i64n _ (by omega) (by omega)])
theorem cNorm9 (x y : Int) (h : List (Option Chunk)) : CallOK Try.prog 21 [.agg #[.int .i64 x, .int .i64 y]] h (.int .i64 (normN x y)) [] [] := call_pure (by rfl) (by rfl) (Try.call21 _) (norm9_x x y)
set_option maxRecDepth 100000 in
theorem mul9_x (x y u v : Int) (w : World) : Calls Try.prog 20 #[.agg #[.int .i64 x, .int .i64 y], .agg #[.int .i64 u, .int .i64 v]] w fun e w' => e = .returned (.agg #[.int .i64 (mulX x y u v), .int .i64 (mulY x y u v)]) ∧ Below w.heap.size w w' := by
  unfold mulX mulY
  cases h : stp x y with
  | false =>
    rw [(cxF h).1, (cxF h).2]
    simp only [Int.zero_mul, Int.sub_self, Int.add_zero]
    refine calls_pure (G := tys) w tysOK mixed Try.func20 (by rfl) (by rfl) (by rfl) ?_
    repeat' (refine N.go ?_; first | with_reducible refine N.obl (by decide) ?_ | with_reducible refine N.obl (flat_wi _ _ _) ?_ | with_reducible refine N.obl (flat_lim _ _) ?_ | with_reducible refine N.eq ?_ | with_reducible refine N.obl rfl ?_ | with_reducible refine N.obl ⟨by kernel_rfl, by kernel_rfl⟩ ?_ | with_reducible refine N.forkT ?_ | with_reducible refine N.forkF ?_ | with_reducible refine N.call (cMay _ _ _) ?_ | refine N.forkNo (by rw [h]; rfl) ?_ | refine N.forkYes (by rw [h]; rfl) ?_ | refine N.forkNo (by decide) ?_ | refine N.forkYes (by decide) ?_ | fail_if_success skip)
    all_goals rfl
  | true =>
    rw [(cxT h).1, (cxT h).2]
    cases k : stp u v with
    | false =>
      rw [(cxF k).1, (cxF k).2]
      simp only [Int.mul_zero, Int.sub_self, Int.add_zero]
      refine calls_pure (G := tys) w tysOK mixed Try.func20 (by rfl) (by rfl) (by rfl) ?_
      repeat' (refine N.go ?_; first | with_reducible refine N.obl (by decide) ?_ | with_reducible refine N.obl (flat_wi _ _ _) ?_ | with_reducible refine N.obl (flat_lim _ _) ?_ | with_reducible refine N.eq ?_ | with_reducible refine N.obl rfl ?_ | with_reducible refine N.obl ⟨by kernel_rfl, by kernel_rfl⟩ ?_ | with_reducible refine N.forkT ?_ | with_reducible refine N.forkF ?_ | with_reducible refine N.call (cMay _ _ _) ?_ | refine N.forkNo (by rw [h]; rfl) ?_ | refine N.forkYes (by rw [h]; rfl) ?_ | refine N.forkNo (by rw [k]; rfl) ?_ | refine N.forkYes (by rw [k]; rfl) ?_ | refine N.forkNo (by decide) ?_ | refine N.forkYes (by decide) ?_ | fail_if_success skip)
      all_goals rfl
    | true =>
      have hb := stp_iff.1 h
      have kb := stp_iff.1 k
      have p1 := prod_b 4194304 (show -4194304 ≤ x ∧ x ≤ 4194304 by omega) 4194304 (show -4194304 ≤ u ∧ u ≤ 4194304 by omega)
      have p2 := prod_b 4194304 (show -4194304 ≤ y ∧ y ≤ 4194304 by omega) 4194304 (show -4194304 ≤ v ∧ v ≤ 4194304 by omega)
      have p3 := prod_b 4194304 (show -4194304 ≤ x ∧ x ≤ 4194304 by omega) 4194304 (show -4194304 ≤ v ∧ v ≤ 4194304 by omega)
      have p4 := prod_b 4194304 (show -4194304 ≤ y ∧ y ≤ 4194304 by omega) 4194304 (show -4194304 ≤ u ∧ u ≤ 4194304 by omega)
      rw [(cxT k).1, (cxT k).2]
      refine calls_pure (G := tys) w tysOK mixed Try.func20 (by rfl) (by rfl) (by rfl) ?_
      repeat' (refine N.go ?_; first | with_reducible refine N.obl (by decide) ?_ | with_reducible refine N.obl (flat_wi _ _ _) ?_ | with_reducible refine N.obl (flat_lim _ _) ?_ | with_reducible refine N.eq ?_ | with_reducible refine N.obl rfl ?_ | with_reducible refine N.obl ⟨by kernel_rfl, by kernel_rfl⟩ ?_ | with_reducible refine N.forkT ?_ | with_reducible refine N.forkF ?_ | with_reducible refine N.call (cMay _ _ _) ?_ | refine N.forkNo (by rw [h]; rfl) ?_ | refine N.forkYes (by rw [h]; rfl) ?_ | refine N.forkNo (by rw [k]; rfl) ?_ | refine N.forkYes (by rw [k]; rfl) ?_ | refine N.forkNo (by decide) ?_ | refine N.forkYes (by decide) ?_ | fail_if_success skip)
      all_goals (rw [i64n (x * u) (by omega) (by omega), i64n (y * v) (by omega) (by omega), i64n (x * v) (by omega) (by omega), i64n (y * u) (by omega) (by omega), i64n (_ - _) (by omega) (by omega), i64n (_ + _) (by omega) (by omega)])
theorem cMul9 (x y u v : Int) (h : List (Option Chunk)) : CallOK Try.prog 20 [.agg #[.int .i64 x, .int .i64 y], .agg #[.int .i64 u, .int .i64 v]] h (.agg #[.int .i64 (mulX x y u v), .int .i64 (mulY x y u v)]) [] [] := call_pure (by rfl) (by rfl) (Try.call20 _) (mul9_x x y u v)
set_option maxRecDepth 100000 in
theorem within4_x (n m : Int) (hm : 0 ≤ m ∧ m ≤ 1000000000) (w : World) : Calls Try.prog 31 #[.int .i64 n, .int .i64 m] w fun e w' => e = .returned (.bool (inB n m)) ∧ Below w.heap.size w w' := by
  refine calls_pure (G := tys) w tysOK mixed Try.func31 (by rfl) (by first | rfl | (simp only [List.all_cons, List.all_nil, plain_wz, plain_lim, plain_wi]; rfl)) (by first | exact plain3_wz _ | exact plain3_wi _ _ _ | rfl | (simp only [plain3, List.all_cons, List.all_nil, plain_wz, plain_lim, plain_wi]; rfl)) ?_
  repeat' (refine N.go ?_; first | with_reducible refine N.obl (by decide) ?_ | with_reducible refine N.obl (flat_wi _ _ _) ?_ | with_reducible refine N.obl (flat_lim _ _) ?_ | with_reducible refine N.eq ?_ | with_reducible refine N.obl rfl ?_ | with_reducible refine N.obl ⟨by kernel_rfl, by kernel_rfl⟩ ?_ | with_reducible refine N.forkT ?_ | with_reducible refine N.forkF ?_ | with_reducible refine N.fork (fun hb => ?_) (fun hb => ?_))
  all_goals
    congr 1
    unfold inB
    rw [i64n (0 - m) (by omega) (by omega)] at hb
    simp only [decide_eq_true_eq, decide_eq_false_iff_not, ge_iff_le] at hb
    first | (rw [decide_eq_decide]; omega) | (symm; rw [decide_eq_false_iff_not]; omega) | (rw [decide_eq_false_iff_not]; omega)
theorem cWithin4 (n m : Int) (h : List (Option Chunk)) (hm : 0 ≤ m ∧ m ≤ 1000000000) : CallOK Try.prog 31 [.int .i64 n, .int .i64 m] h (.bool (inB n m)) [] [] := call_pure (by rfl) (by rfl) (Try.call31 _) (within4_x n m hm)
set_option maxRecDepth 100000 in
theorem maypoint_x (x y : Int) (w : World) : Calls Try.prog 27 #[.agg #[.int .i64 x, .int .i64 y]] w fun e w' => e = .returned (.bool (okPos x && okPos y)) ∧ Below w.heap.size w w' := by
  refine calls_pure (G := tys) w tysOK mixed Try.func27 (by rfl) (by rfl) (by rfl) ?_
  repeat' (refine N.go ?_; first | with_reducible refine N.obl (by decide) ?_ | with_reducible refine N.obl (flat_wi _ _ _) ?_ | with_reducible refine N.obl (flat_lim _ _) ?_ | with_reducible refine N.eq ?_ | with_reducible refine N.obl rfl ?_ | with_reducible refine N.obl ⟨by kernel_rfl, by kernel_rfl⟩ ?_ | with_reducible refine N.forkT ?_ | with_reducible refine N.forkF ?_ | with_reducible refine N.call (cWithin4 _ _ _ (by decide)) ?_ | with_reducible refine N.fork (fun hb => ?_) (fun hb => ?_))
  all_goals (unfold okPos; rw [hb]; rfl)
theorem cMayPoint4 (x y : Int) (h : List (Option Chunk)) : CallOK Try.prog 27 [.agg #[.int .i64 x, .int .i64 y]] h (.bool (okPos x && okPos y)) [] [] := call_pure (by rfl) (by rfl) (Try.call27 _) (maypoint_x x y)
theorem cIsqrtE (z n : Int) (hz : z = n) (h : List (Option Chunk)) (hn : 0 ≤ n ∧ n < 281474976710656) : CallOK Try.prog 28 [.int .i64 z] h (.int .i64 ((isq n.toNat : Nat) : Int)) [] [] := by subst hz; exact cIsqrt z h hn
set_option maxRecDepth 100000 in
theorem dist9_x (x y u v : Int) (w : World) : Calls Try.prog 22 #[.agg #[.int .i64 x, .int .i64 y], .agg #[.int .i64 u, .int .i64 v]] w fun e w' => e = .returned (.int .i64 (distN x y u v)) ∧ Below w.heap.size w w' := by
  unfold distN
  cases h : (okPos x && okPos y) with
  | false =>
    rw [Bool.false_and, Bool.false_and]
    refine calls_pure (G := tys) w tysOK mixed Try.func22 (by rfl) (by rfl) (by rfl) ?_
    repeat' (refine N.go ?_; first | with_reducible refine N.obl (by decide) ?_ | with_reducible refine N.obl (flat_wi _ _ _) ?_ | with_reducible refine N.obl (flat_lim _ _) ?_ | with_reducible refine N.eq ?_ | with_reducible refine N.obl rfl ?_ | with_reducible refine N.obl ⟨by kernel_rfl, by kernel_rfl⟩ ?_ | with_reducible refine N.forkT ?_ | with_reducible refine N.forkF ?_ | with_reducible refine N.call (cMayPoint4 _ _ _) ?_ | refine N.forkNo (by rw [h]; rfl) ?_ | refine N.forkYes (by rw [h]; rfl) ?_ | refine N.forkNo (by decide) ?_ | refine N.forkYes (by decide) ?_ | fail_if_success skip)
    all_goals rfl
  | true =>
    cases k : (okPos u && okPos v) with
    | false =>
      rw [Bool.true_and, k]
      refine calls_pure (G := tys) w tysOK mixed Try.func22 (by rfl) (by rfl) (by rfl) ?_
      repeat' (refine N.go ?_; first | with_reducible refine N.obl (by decide) ?_ | with_reducible refine N.obl (flat_wi _ _ _) ?_ | with_reducible refine N.obl (flat_lim _ _) ?_ | with_reducible refine N.eq ?_ | with_reducible refine N.obl rfl ?_ | with_reducible refine N.obl ⟨by kernel_rfl, by kernel_rfl⟩ ?_ | with_reducible refine N.forkT ?_ | with_reducible refine N.forkF ?_ | with_reducible refine N.call (cMayPoint4 _ _ _) ?_ | refine N.forkNo (by rw [h]; rfl) ?_ | refine N.forkYes (by rw [h]; rfl) ?_ | refine N.forkNo (by rw [k]; rfl) ?_ | refine N.forkYes (by rw [k]; rfl) ?_ | refine N.forkNo (by decide) ?_ | refine N.forkYes (by decide) ?_ | fail_if_success skip)
      all_goals rfl
    | true =>
      rw [Bool.true_and, k]
      rw [Bool.and_eq_true] at h k
      have h1 := okPos_bounds h.1
      have h2 := okPos_bounds h.2
      have h3 := okPos_bounds k.1
      have h4 := okPos_bounds k.2
      have hh : (okPos x && okPos y) = true := by rw [h.1, h.2]; rfl
      have kk : (okPos u && okPos v) = true := by rw [k.1, k.2]; rfl
      have s1 := sqB (M := 8388608) (d := x - u) (by omega)
      have s2 := sqB (M := 8388608) (d := y - v) (by omega)
      have e : IntKind.i64.wrap (IntKind.i64.wrap (IntKind.i64.wrap (x - u) * IntKind.i64.wrap (x - u)) + IntKind.i64.wrap (IntKind.i64.wrap (y - v) * IntKind.i64.wrap (y - v))) = (x - u) * (x - u) + (y - v) * (y - v) := by
        rw [i64n (x - u) (by omega) (by omega), i64n (y - v) (by omega) (by omega), i64n ((x - u) * (x - u)) (by omega) (by omega), i64n ((y - v) * (y - v)) (by omega) (by omega), i64n _ (by omega) (by omega)]
      refine calls_pure (G := tys) w tysOK mixed Try.func22 (by rfl) (by rfl) (by rfl) ?_
      repeat' (refine N.go ?_; first | with_reducible refine N.obl (by decide) ?_ | with_reducible refine N.obl (flat_wi _ _ _) ?_ | with_reducible refine N.obl (flat_lim _ _) ?_ | with_reducible refine N.eq ?_ | with_reducible refine N.obl rfl ?_ | with_reducible refine N.obl ⟨by kernel_rfl, by kernel_rfl⟩ ?_ | with_reducible refine N.forkT ?_ | with_reducible refine N.forkF ?_ | with_reducible refine N.call (cMayPoint4 _ _ _) ?_ | refine N.call (cIsqrtE _ _ e _ (by omega)) ?_ | refine N.forkNo (by rw [hh]; rfl) ?_ | refine N.forkYes (by rw [hh]; rfl) ?_ | refine N.forkNo (by rw [kk]; rfl) ?_ | refine N.forkYes (by rw [kk]; rfl) ?_ | refine N.forkNo (by decide) ?_ | refine N.forkYes (by decide) ?_ | fail_if_success skip)
      all_goals rfl
theorem cDist9 (x y u v : Int) (h : List (Option Chunk)) : CallOK Try.prog 22 [.agg #[.int .i64 x, .int .i64 y], .agg #[.int .i64 u, .int .i64 v]] h (.int .i64 (distN x y u v)) [] [] := call_pure (by rfl) (by rfl) (Try.call22 _) (dist9_x x y u v)
end Go.Proofs.Ytkjeebabcdnjkaa
