/-
  The walks of the document's Local, Fine, Span, Range.
-/
import Derived.Test.YtioohgocbpdkeaaRe
import Derived.Test.YtioohgocbpdkeaaTwr
set_option linter.unusedVariables false
set_option linter.unusedSimpArgs false
namespace Go.Proofs.Ytioohgocbpdkeaa
open Go Go.RowKit Sx

theorem up_quot (x c : Nat) (hc : 0 < c) : (((if x % c = 0 then x / c else x / c + 1 : Nat) : Nat) : Int) = -(-(x : Int) / (c : Int)) := by
  have h1 := Nat.div_add_mod x c
  have h2 := Nat.mod_lt x hc
  have h3 : (x : Int) = (c : Int) * ((x / c : Nat) : Int) + ((x % c : Nat) : Int) := by
    rw [← Int.natCast_mul, ← Int.natCast_add, h1]
  generalize x / c = q at *
  generalize hr : x % c = r at *
  by_cases hz : r = 0
  · rw [if_pos hz]
    have := (Int.ediv_emod_unique (a := -(x : Int)) (b := (c : Int)) (q := -(q : Int)) (r := 0) (by omega)).2 ⟨by rw [h3, hz, Int.mul_neg]; omega, by omega, by omega⟩
    rw [this.1]; omega
  · rw [if_neg hz]
    have := (Int.ediv_emod_unique (a := -(x : Int)) (b := (c : Int)) (q := -((q : Int) + 1)) (r := (c : Int) - (r : Int)) (by omega)).2 ⟨by rw [h3, Int.mul_neg, Int.mul_add, Int.mul_one]; omega, by omega, by omega⟩
    rw [this.1]; omega
theorem cRMd (a b c : Int) (h : List (Option Chunk)) (ha : 0 ≤ a ∧ a < 140737488355329) (hb : 1 ≤ b ∧ b ≤ 2000000) (hc : 900000 ≤ c ∧ c ≤ 2000000) : CallOK Try.prog 44 [.int .i64 a, .int .i64 b, .int .i64 c] h (.tuple #[.int .i64 (a * b / c), .int .i64 0]) [] [] := by
  obtain ⟨a, rfl⟩ := Int.eq_ofNat_of_zero_le ha.1
  obtain ⟨b, rfl⟩ := Int.eq_ofNat_of_zero_le (show 0 ≤ b by omega)
  obtain ⟨c, rfl⟩ := Int.eq_ofNat_of_zero_le (show 0 ≤ c by omega)
  have H := call_pure (h := h) (by rfl) (by rfl) (Try.call44 _) (rmuldiv_x a b c (by omega) (by omega) (by omega))
  rw [Int.natCast_ediv, Int.natCast_mul] at H
  exact H
theorem cRMdu (a b c : Int) (h : List (Option Chunk)) (ha : 1 ≤ a ∧ a < 140737488355329) (hb : 1 ≤ b ∧ b ≤ 2000000) (hc : 900000 ≤ c ∧ c ≤ 2000000) : CallOK Try.prog 45 [.int .i64 a, .int .i64 b, .int .i64 c] h (.tuple #[.int .i64 (-(-(a * b) / c)), .int .i64 0]) [] [] := by
  obtain ⟨a, rfl⟩ := Int.eq_ofNat_of_zero_le (show 0 ≤ a by omega)
  obtain ⟨b, rfl⟩ := Int.eq_ofNat_of_zero_le (show 0 ≤ b by omega)
  obtain ⟨c, rfl⟩ := Int.eq_ofNat_of_zero_le (show 0 ≤ c by omega)
  have H := call_pure (h := h) (by rfl) (by rfl) (Try.call45 _) (rmuldivup_x a b c (by omega) (by omega) (by omega))
  rw [up_quot _ _ (by omega), Int.natCast_mul] at H
  exact H
set_option maxRecDepth 100000 in
theorem clamp9_x (n a b : Int)  (w : World) : Calls Try.prog 46 #[.int .i64 n, .int .i64 a, .int .i64 b] w fun e w' => e = .returned (.int .i64 (max a (min n b))) ∧ Below w.heap.size w w' := by
  refine calls_pure (G := tys) w tysOK mixed Try.func46 (by rfl) (by first | rfl | (simp only [List.all_cons, List.all_nil, plain_wz, plain_lim, plain_wi]; rfl)) (by first | exact plain3_wz _ | exact plain3_wi _ _ _ | rfl | (simp only [plain3, List.all_cons, List.all_nil, plain_wz, plain_lim, plain_wi]; rfl)) ?_
  repeat' (refine N.go ?_; first | with_reducible refine N.obl (by decide) ?_ | with_reducible refine N.obl (flat_wi _ _ _) ?_ | with_reducible refine N.obl (flat_lim _ _) ?_ | with_reducible refine N.eq ?_ | with_reducible refine N.obl rfl ?_ | with_reducible refine N.obl ⟨by kernel_rfl, by kernel_rfl⟩ ?_ | with_reducible refine N.forkT ?_ | with_reducible refine N.forkF ?_ | with_reducible refine N.min2 ?_ | with_reducible refine N.max2 ?_)
  all_goals rfl
theorem cClamp9 (n a b : Int) (h : List (Option Chunk)) : CallOK Try.prog 46 [.int .i64 n, .int .i64 a, .int .i64 b] h (.int .i64 (max a (min n b))) [] [] := call_pure rfl rfl (Try.call46 _) (clamp9_x n a b)
set_option maxRecDepth 100000 in
theorem local9_x (skew t : Int)  (w : World) : Calls Try.prog 19 #[.int .i64 skew, .int .i64 t] w fun e w' => e = .returned (.int .i64 (locN skew t)) ∧ Below w.heap.size w w' := by
  refine calls_pure (G := tys) w tysOK mixed Try.func19 (by rfl) (by first | rfl | (simp only [List.all_cons, List.all_nil, plain_wz, plain_lim, plain_wi]; rfl)) (by first | exact plain3_wz _ | exact plain3_wi _ _ _ | rfl | (simp only [plain3, List.all_cons, List.all_nil, plain_wz, plain_lim, plain_wi]; rfl)) ?_
  repeat' (refine N.go ?_; first | with_reducible refine N.obl (by decide) ?_ | with_reducible refine N.obl (flat_wi _ _ _) ?_ | with_reducible refine N.obl (flat_lim _ _) ?_ | with_reducible refine N.eq ?_ | with_reducible refine N.obl rfl ?_ | with_reducible refine N.obl ⟨by kernel_rfl, by kernel_rfl⟩ ?_ | with_reducible refine N.forkT ?_ | with_reducible refine N.forkF ?_ | with_reducible refine N.call (cClamp9 _ _ _ _) ?_)
  all_goals
    rw [IntKind.wrap_i64, show (max 0 (min t 1000000) + max (-1000000) (min skew 1000000) + 9223372036854775808) % 18446744073709551616 - 9223372036854775808 = max 0 (min t 1000000) + max (-1000000) (min skew 1000000) from by omega]
    rfl
theorem cLocal9 (a b : Int) (h : List (Option Chunk)) : CallOK Try.prog 19 [.int .i64 a, .int .i64 b] h (.int .i64 (locN a b)) [] [] := call_pure rfl rfl (Try.call19 _) (local9_x a b)
set_option maxRecDepth 100000 in
theorem isfine9_x (n : Int)  (w : World) : Calls Try.prog 43 #[.int .i64 n] w fun e w' => e = .returned (.bool (decide (0 ≤ n ∧ n ≤ 70368744177664))) ∧ Below w.heap.size w w' := by
  refine calls_pure (G := tys) w tysOK mixed Try.func43 (by rfl) (by first | rfl | (simp only [List.all_cons, List.all_nil, plain_wz, plain_lim, plain_wi]; rfl)) (by first | exact plain3_wz _ | exact plain3_wi _ _ _ | rfl | (simp only [plain3, List.all_cons, List.all_nil, plain_wz, plain_lim, plain_wi]; rfl)) ?_
  repeat' (refine N.go ?_; first | with_reducible refine N.obl (by decide) ?_ | with_reducible refine N.obl (flat_wi _ _ _) ?_ | with_reducible refine N.obl (flat_lim _ _) ?_ | with_reducible refine N.eq ?_ | with_reducible refine N.obl rfl ?_ | with_reducible refine N.obl ⟨by kernel_rfl, by kernel_rfl⟩ ?_ | with_reducible refine N.forkT ?_ | with_reducible refine N.forkF ?_ | with_reducible refine N.fork (fun hb => ?_) (fun hb => ?_))
  all_goals
    congr 1
    simp only [decide_eq_true_eq, decide_eq_false_iff_not, ge_iff_le] at hb
    simp [hb]
theorem cIsFine9 (n : Int) (h : List (Option Chunk)) : CallOK Try.prog 43 [.int .i64 n] h (.bool (decide (0 ≤ n ∧ n ≤ 70368744177664))) [] [] := call_pure rfl rfl (Try.call43 _) (isfine9_x n)
set_option maxRecDepth 100000 in
set_option maxHeartbeats 2000000 in
theorem fine9_x (drift off g : Int) (w : World) : Calls Try.prog 17 #[.int .i64 drift, .int .i64 off, .int .i64 g] w fun e w' => e = .returned (fineV drift off g) ∧ Below w.heap.size w w' := by
  have bad : ¬ fineOK drift off g → fineV drift off g = .tuple #[.int .i64 0, .int .i64 1] := fun h => by unfold fineV; rw [if_neg h, if_neg h]
  by_cases h1 : -1000 ≤ drift ∧ drift ≤ 1000
  · by_cases h2 : 0 ≤ off ∧ off ≤ 70368744177664
    · by_cases h3 : 0 ≤ g ∧ g ≤ 70368744177664
      · have ho : fineOK drift off g := ⟨h1, h2, h3⟩
        have a0 : 0 ≤ g * (1000000 + drift) := Int.mul_nonneg (by omega) (by omega)
        have a1 : g * (1000000 + drift) ≤ 70368744177664 * 1001000 := Int.mul_le_mul (by omega) (by omega) (by omega) (by omega)
        refine calls_pure (G := tys) w tysOK mixed Try.func17 (by rfl) (by rfl) (by rfl) ?_
        repeat' (refine N.go ?_; first | with_reducible refine N.obl (by decide) ?_ | with_reducible refine N.obl (flat_wi _ _ _) ?_ | with_reducible refine N.obl (flat_lim _ _) ?_ | with_reducible refine N.eq ?_ | with_reducible refine N.obl rfl ?_ | with_reducible refine N.obl ⟨by kernel_rfl, by kernel_rfl⟩ ?_ | with_reducible refine N.forkT ?_ | with_reducible refine N.forkF ?_ | with_reducible refine N.call (cIsFine9 _ _) ?_ | refine N.call (cRMd g _ _ _ (by omega) (by rw [wsmall _ (by omega) (by omega)]; omega) (by decide)) ?_ | refine N.forkYes (by rw [decide_eq_true_eq]; omega) ?_ | refine N.forkNo (by rw [decide_eq_false_iff_not]; omega) ?_ | refine N.forkNo (by rw [decide_eq_true (by assumption)]; rfl) ?_ | refine N.forkYes (by rw [decide_eq_false (by assumption)]; rfl) ?_ | fail_if_success skip)
        all_goals
          unfold fineV
          rw [if_pos ho, if_pos ho, wsmall (1000000 + drift) (by omega) (by omega), wsmall _ (by omega) (by omega)]
          rfl
      · rw [bad (fun h => h3 h.2.2)]
        refine calls_pure (G := tys) w tysOK mixed Try.func17 (by rfl) (by rfl) (by rfl) ?_
        repeat' (refine N.go ?_; first | with_reducible refine N.obl (by decide) ?_ | with_reducible refine N.obl (flat_wi _ _ _) ?_ | with_reducible refine N.obl (flat_lim _ _) ?_ | with_reducible refine N.eq ?_ | with_reducible refine N.obl rfl ?_ | with_reducible refine N.obl ⟨by kernel_rfl, by kernel_rfl⟩ ?_ | with_reducible refine N.forkT ?_ | with_reducible refine N.forkF ?_ | with_reducible refine N.call (cIsFine9 _ _) ?_ | refine N.call (cRMd g _ _ _ (by omega) (by rw [wsmall _ (by omega) (by omega)]; omega) (by decide)) ?_ | refine N.forkYes (by rw [decide_eq_true_eq]; omega) ?_ | refine N.forkNo (by rw [decide_eq_false_iff_not]; omega) ?_ | refine N.forkNo (by rw [decide_eq_true (by assumption)]; rfl) ?_ | refine N.forkYes (by rw [decide_eq_false (by assumption)]; rfl) ?_ | fail_if_success skip)
        all_goals rfl
    · rw [bad (fun h => h2 h.2.1)]
      refine calls_pure (G := tys) w tysOK mixed Try.func17 (by rfl) (by rfl) (by rfl) ?_
      repeat' (refine N.go ?_; first | with_reducible refine N.obl (by decide) ?_ | with_reducible refine N.obl (flat_wi _ _ _) ?_ | with_reducible refine N.obl (flat_lim _ _) ?_ | with_reducible refine N.eq ?_ | with_reducible refine N.obl rfl ?_ | with_reducible refine N.obl ⟨by kernel_rfl, by kernel_rfl⟩ ?_ | with_reducible refine N.forkT ?_ | with_reducible refine N.forkF ?_ | with_reducible refine N.call (cIsFine9 _ _) ?_ | refine N.call (cRMd g _ _ _ (by omega) (by rw [wsmall _ (by omega) (by omega)]; omega) (by decide)) ?_ | refine N.forkYes (by rw [decide_eq_true_eq]; omega) ?_ | refine N.forkNo (by rw [decide_eq_false_iff_not]; omega) ?_ | refine N.forkNo (by rw [decide_eq_true (by assumption)]; rfl) ?_ | refine N.forkYes (by rw [decide_eq_false (by assumption)]; rfl) ?_ | fail_if_success skip)
      all_goals rfl
  · rw [bad (fun h => h1 h.1)]
    by_cases h4 : drift < -1000
    · refine calls_pure (G := tys) w tysOK mixed Try.func17 (by rfl) (by rfl) (by rfl) ?_
      repeat' (refine N.go ?_; first | with_reducible refine N.obl (by decide) ?_ | with_reducible refine N.obl (flat_wi _ _ _) ?_ | with_reducible refine N.obl (flat_lim _ _) ?_ | with_reducible refine N.eq ?_ | with_reducible refine N.obl rfl ?_ | with_reducible refine N.obl ⟨by kernel_rfl, by kernel_rfl⟩ ?_ | with_reducible refine N.forkT ?_ | with_reducible refine N.forkF ?_ | with_reducible refine N.call (cIsFine9 _ _) ?_ | refine N.call (cRMd g _ _ _ (by omega) (by rw [wsmall _ (by omega) (by omega)]; omega) (by decide)) ?_ | refine N.forkYes (by rw [decide_eq_true_eq]; omega) ?_ | refine N.forkNo (by rw [decide_eq_false_iff_not]; omega) ?_ | refine N.forkNo (by rw [decide_eq_true (by assumption)]; rfl) ?_ | refine N.forkYes (by rw [decide_eq_false (by assumption)]; rfl) ?_ | fail_if_success skip)
      all_goals rfl
    · refine calls_pure (G := tys) w tysOK mixed Try.func17 (by rfl) (by rfl) (by rfl) ?_
      repeat' (refine N.go ?_; first | with_reducible refine N.obl (by decide) ?_ | with_reducible refine N.obl (flat_wi _ _ _) ?_ | with_reducible refine N.obl (flat_lim _ _) ?_ | with_reducible refine N.eq ?_ | with_reducible refine N.obl rfl ?_ | with_reducible refine N.obl ⟨by kernel_rfl, by kernel_rfl⟩ ?_ | with_reducible refine N.forkT ?_ | with_reducible refine N.forkF ?_ | with_reducible refine N.call (cIsFine9 _ _) ?_ | refine N.call (cRMd g _ _ _ (by omega) (by rw [wsmall _ (by omega) (by omega)]; omega) (by decide)) ?_ | refine N.forkYes (by rw [decide_eq_true_eq]; omega) ?_ | refine N.forkNo (by rw [decide_eq_false_iff_not]; omega) ?_ | refine N.forkNo (by rw [decide_eq_true (by assumption)]; rfl) ?_ | refine N.forkYes (by rw [decide_eq_false (by assumption)]; rfl) ?_ | fail_if_success skip)
      all_goals rfl
theorem cFine9 (a b c : Int) (h : List (Option Chunk)) : CallOK Try.prog 17 [.int .i64 a, .int .i64 b, .int .i64 c] h (fineV a b c) [] [] := call_pure rfl rfl (Try.call17 _) (fine9_x a b c)
set_option maxRecDepth 100000 in
set_option maxHeartbeats 2000000 in
theorem span9_x (d x : Int) (w : World) : Calls Try.prog 18 #[.int .i64 d, .int .i64 x] w fun e w' => e = .returned (spanV d x) ∧ Below w.heap.size w w' := by
  have bad : ¬ spanOK d x → spanV d x = .tuple #[.int .i64 0, .int .i64 0, .int .i64 1] := fun h => by unfold spanV; rw [if_neg h, if_neg h, if_neg h]
  by_cases h1 : 0 ≤ d ∧ d ≤ 70368744177664
  · by_cases h2 : 0 ≤ x ∧ x ≤ 1000
    · have ho : spanOK d x := ⟨h1, h2⟩
      refine calls_pure (G := tys) w tysOK mixed Try.func18 (by rfl) (by rfl) (by rfl) ?_
      repeat' (refine N.go ?_; first | with_reducible refine N.obl (by decide) ?_ | with_reducible refine N.obl (flat_wi _ _ _) ?_ | with_reducible refine N.obl (flat_lim _ _) ?_ | with_reducible refine N.eq ?_ | with_reducible refine N.obl rfl ?_ | with_reducible refine N.obl ⟨by kernel_rfl, by kernel_rfl⟩ ?_ | with_reducible refine N.forkT ?_ | with_reducible refine N.forkF ?_ | with_reducible refine N.call (cIsFine9 _ _) ?_ | refine N.call (cRMd _ _ _ _ (by rw [wsmall _ (by omega) (by omega)]; omega) (by decide) (by rw [wsmall _ (by omega) (by omega)]; omega)) ?_ | refine N.call (cRMdu _ _ _ _ (by rw [wsmall _ (by omega) (by omega)]; omega) (by decide) (by rw [wsmall _ (by omega) (by omega)]; omega)) ?_ | with_reducible refine N.min2 ?_ | with_reducible refine N.max2 ?_ | refine N.forkYes (by rw [decide_eq_true_eq]; omega) ?_ | refine N.forkNo (by rw [decide_eq_false_iff_not]; omega) ?_ | refine N.forkNo (by rw [decide_eq_true (by assumption)]; rfl) ?_ | refine N.forkYes (by rw [decide_eq_false (by assumption)]; rfl) ?_ | fail_if_success skip)
      all_goals
        unfold spanV
        rw [if_pos ho, if_pos ho, if_pos ho, wsmall (d - 1) (by omega) (by omega), wsmall (d + 1) (by omega) (by omega), wsmall (1000000 + x) (by omega) (by omega), wsmall (1000000 - x) (by omega) (by omega)]
        rfl
    · rw [bad (fun h => h2 h.2)]
      by_cases h4 : x < 0
      · refine calls_pure (G := tys) w tysOK mixed Try.func18 (by rfl) (by rfl) (by rfl) ?_
        repeat' (refine N.go ?_; first | with_reducible refine N.obl (by decide) ?_ | with_reducible refine N.obl (flat_wi _ _ _) ?_ | with_reducible refine N.obl (flat_lim _ _) ?_ | with_reducible refine N.eq ?_ | with_reducible refine N.obl rfl ?_ | with_reducible refine N.obl ⟨by kernel_rfl, by kernel_rfl⟩ ?_ | with_reducible refine N.forkT ?_ | with_reducible refine N.forkF ?_ | with_reducible refine N.call (cIsFine9 _ _) ?_ | refine N.call (cRMd _ _ _ _ (by rw [wsmall _ (by omega) (by omega)]; omega) (by decide) (by rw [wsmall _ (by omega) (by omega)]; omega)) ?_ | refine N.call (cRMdu _ _ _ _ (by rw [wsmall _ (by omega) (by omega)]; omega) (by decide) (by rw [wsmall _ (by omega) (by omega)]; omega)) ?_ | with_reducible refine N.min2 ?_ | with_reducible refine N.max2 ?_ | refine N.forkYes (by rw [decide_eq_true_eq]; omega) ?_ | refine N.forkNo (by rw [decide_eq_false_iff_not]; omega) ?_ | refine N.forkNo (by rw [decide_eq_true (by assumption)]; rfl) ?_ | refine N.forkYes (by rw [decide_eq_false (by assumption)]; rfl) ?_ | fail_if_success skip)
        all_goals rfl
      · refine calls_pure (G := tys) w tysOK mixed Try.func18 (by rfl) (by rfl) (by rfl) ?_
        repeat' (refine N.go ?_; first | with_reducible refine N.obl (by decide) ?_ | with_reducible refine N.obl (flat_wi _ _ _) ?_ | with_reducible refine N.obl (flat_lim _ _) ?_ | with_reducible refine N.eq ?_ | with_reducible refine N.obl rfl ?_ | with_reducible refine N.obl ⟨by kernel_rfl, by kernel_rfl⟩ ?_ | with_reducible refine N.forkT ?_ | with_reducible refine N.forkF ?_ | with_reducible refine N.call (cIsFine9 _ _) ?_ | refine N.call (cRMd _ _ _ _ (by rw [wsmall _ (by omega) (by omega)]; omega) (by decide) (by rw [wsmall _ (by omega) (by omega)]; omega)) ?_ | refine N.call (cRMdu _ _ _ _ (by rw [wsmall _ (by omega) (by omega)]; omega) (by decide) (by rw [wsmall _ (by omega) (by omega)]; omega)) ?_ | with_reducible refine N.min2 ?_ | with_reducible refine N.max2 ?_ | refine N.forkYes (by rw [decide_eq_true_eq]; omega) ?_ | refine N.forkNo (by rw [decide_eq_false_iff_not]; omega) ?_ | refine N.forkNo (by rw [decide_eq_true (by assumption)]; rfl) ?_ | refine N.forkYes (by rw [decide_eq_false (by assumption)]; rfl) ?_ | fail_if_success skip)
        all_goals rfl
  · rw [bad (fun h => h1 h.1)]
    refine calls_pure (G := tys) w tysOK mixed Try.func18 (by rfl) (by rfl) (by rfl) ?_
    repeat' (refine N.go ?_; first | with_reducible refine N.obl (by decide) ?_ | with_reducible refine N.obl (flat_wi _ _ _) ?_ | with_reducible refine N.obl (flat_lim _ _) ?_ | with_reducible refine N.eq ?_ | with_reducible refine N.obl rfl ?_ | with_reducible refine N.obl ⟨by kernel_rfl, by kernel_rfl⟩ ?_ | with_reducible refine N.forkT ?_ | with_reducible refine N.forkF ?_ | with_reducible refine N.call (cIsFine9 _ _) ?_ | refine N.call (cRMd _ _ _ _ (by rw [wsmall _ (by omega) (by omega)]; omega) (by decide) (by rw [wsmall _ (by omega) (by omega)]; omega)) ?_ | refine N.call (cRMdu _ _ _ _ (by rw [wsmall _ (by omega) (by omega)]; omega) (by decide) (by rw [wsmall _ (by omega) (by omega)]; omega)) ?_ | with_reducible refine N.min2 ?_ | with_reducible refine N.max2 ?_ | refine N.forkYes (by rw [decide_eq_true_eq]; omega) ?_ | refine N.forkNo (by rw [decide_eq_false_iff_not]; omega) ?_ | refine N.forkNo (by rw [decide_eq_true (by assumption)]; rfl) ?_ | refine N.forkYes (by rw [decide_eq_false (by assumption)]; rfl) ?_ | fail_if_success skip)
    all_goals rfl
theorem cSpan9 (a b : Int) (h : List (Option Chunk)) : CallOK Try.prog 18 [.int .i64 a, .int .i64 b] h (spanV a b) [] [] := call_pure rfl rfl (Try.call18 _) (span9_x a b)
end Go.Proofs.Ytioohgocbpdkeaa
