/-
  The walks of clock: in, between, Local, Fine, Span.
-/
import Derived.Test.YtioohgocbpdkeaaRt3
import Derived.Test.YtioohgocbpdkeaaMore
set_option linter.unusedVariables false
set_option linter.unusedSimpArgs false
namespace Go.Proofs.Ytioohgocbpdkeaa
open Go Go.RowKit Sx

set_option maxRecDepth 100000 in
theorem in_x (n a b : Int)  (w : World) : Calls Try.prog 40 #[.int .i64 n, .int .i64 a, .int .i64 b] w fun e w' => e = .returned (.bool (decide (a ≤ n ∧ n ≤ b))) ∧ Below w.heap.size w w' := by
  refine calls_pure (G := tys) w tysOK mixed Try.func40 (by rfl) (by first | rfl | (simp only [List.all_cons, List.all_nil, plain_wz, plain_lim, plain_wi]; rfl)) (by first | exact plain3_wz _ | exact plain3_wi _ _ _ | rfl | (simp only [plain3, List.all_cons, List.all_nil, plain_wz, plain_lim, plain_wi]; rfl)) ?_
  repeat' (refine N.go ?_; first | with_reducible refine N.obl (by decide) ?_ | with_reducible refine N.obl (flat_wi _ _ _) ?_ | with_reducible refine N.obl (flat_lim _ _) ?_ | with_reducible refine N.eq ?_ | with_reducible refine N.obl rfl ?_ | with_reducible refine N.obl ⟨by kernel_rfl, by kernel_rfl⟩ ?_ | with_reducible refine N.forkT ?_ | with_reducible refine N.forkF ?_ | with_reducible refine N.fork (fun hb => ?_) (fun hb => ?_))
  all_goals
    congr 1
    simp only [decide_eq_true_eq, decide_eq_false_iff_not, ge_iff_le] at hb
    simp [hb]
theorem between_x (n a b : Int)  (w : World) : Calls Try.prog 39 #[.int .i64 n, .int .i64 a, .int .i64 b] w fun e w' => e = .returned (.int .i64 (max a (min n b))) ∧ Below w.heap.size w w' := by
  refine calls_pure (G := tys) w tysOK mixed Try.func39 (by rfl) (by first | rfl | (simp only [List.all_cons, List.all_nil, plain_wz, plain_lim, plain_wi]; rfl)) (by first | exact plain3_wz _ | exact plain3_wi _ _ _ | rfl | (simp only [plain3, List.all_cons, List.all_nil, plain_wz, plain_lim, plain_wi]; rfl)) ?_
  repeat' (refine N.go ?_; first | with_reducible refine N.obl (by decide) ?_ | with_reducible refine N.obl (flat_wi _ _ _) ?_ | with_reducible refine N.obl (flat_lim _ _) ?_ | with_reducible refine N.eq ?_ | with_reducible refine N.obl rfl ?_ | with_reducible refine N.obl ⟨by kernel_rfl, by kernel_rfl⟩ ?_ | with_reducible refine N.forkT ?_ | with_reducible refine N.forkF ?_ | with_reducible refine N.min2 ?_ | with_reducible refine N.max2 ?_)
  all_goals rfl
theorem cIn (n a b : Int) (h : List (Option Chunk)) : CallOK Try.prog 40 [.int .i64 n, .int .i64 a, .int .i64 b] h (.bool (decide (a ≤ n ∧ n ≤ b))) [] [] :=
  call_pure rfl rfl (Try.call40 _) (in_x n a b)
theorem cBetween (n a b : Int) (h : List (Option Chunk)) : CallOK Try.prog 39 [.int .i64 n, .int .i64 a, .int .i64 b] h (.int .i64 (max a (min n b))) [] [] :=
  call_pure rfl rfl (Try.call39 _) (between_x n a b)
def locN (skew t : Int) : Int := max 0 (min (max 0 (min t 1000000) + max (-1000000) (min skew 1000000)) 1000000)
set_option maxRecDepth 100000 in
theorem local_x (skew t : Int)  (w : World) : Calls Try.prog 13 #[.int .i64 skew, .int .i64 t] w fun e w' => e = .returned (.int .i64 (locN skew t)) ∧ Below w.heap.size w w' := by
  refine calls_pure (G := tys) w tysOK mixed Try.func13 (by rfl) (by first | rfl | (simp only [List.all_cons, List.all_nil, plain_wz, plain_lim, plain_wi]; rfl)) (by first | exact plain3_wz _ | exact plain3_wi _ _ _ | rfl | (simp only [plain3, List.all_cons, List.all_nil, plain_wz, plain_lim, plain_wi]; rfl)) ?_
  repeat' (refine N.go ?_; first | with_reducible refine N.obl (by decide) ?_ | with_reducible refine N.obl (flat_wi _ _ _) ?_ | with_reducible refine N.obl (flat_lim _ _) ?_ | with_reducible refine N.eq ?_ | with_reducible refine N.obl rfl ?_ | with_reducible refine N.obl ⟨by kernel_rfl, by kernel_rfl⟩ ?_ | with_reducible refine N.forkT ?_ | with_reducible refine N.forkF ?_ | with_reducible refine N.call (cBetween _ _ _ _) ?_)
  all_goals
    rw [IntKind.wrap_i64, show (max 0 (min t 1000000) + max (-1000000) (min skew 1000000) + 9223372036854775808) % 18446744073709551616 - 9223372036854775808 = max 0 (min t 1000000) + max (-1000000) (min skew 1000000) from by omega]
    rfl
theorem cLocal (skew t : Int) (h : List (Option Chunk)) : CallOK Try.prog 13 [.int .i64 skew, .int .i64 t] h (.int .i64 (locN skew t)) [] [] :=
  call_pure rfl rfl (Try.call13 _) (local_x skew t)
def fineOK (drift off g : Int) : Prop := (-1000 ≤ drift ∧ drift ≤ 1000) ∧ (0 ≤ off ∧ off ≤ 70368744177664) ∧ (0 ≤ g ∧ g ≤ 70368744177664)
instance (a b c : Int) : Decidable (fineOK a b c) := by unfold fineOK; infer_instance
def fineN (drift off g : Int) : Int := g * (1000000 + drift) / 1000000 + off
def fineV (drift off g : Int) : Value := .tuple #[.int .i64 (if fineOK drift off g then fineN drift off g else 0), .int .i64 (if fineOK drift off g then 0 else 1)]
theorem mdv (a b c : Int) (h : List (Option Chunk)) (ha : -9223372036854775808 ≤ a) (ha' : a < 9223372036854775808) (hb : -9223372036854775808 ≤ b) (hb' : b < 9223372036854775808) (hc : 0 < c) (hcc : c < 9223372036854775808) (q : Int) (hq : a * b / c = q) (q1 : -9223372036854775808 ≤ q) (q2 : q < 9223372036854775808) : CallOK Try.prog 41 [.int .i64 a, .int .i64 b, .int .i64 c] h (.tuple #[.int .i64 q, .int .i64 0]) [] [] := by
  obtain ⟨n, rfl⟩ := Int.eq_ofNat_of_zero_le (by omega : 0 ≤ c)
  have := cMuldiv a b n h ha ha' hb hb' (by omega) (by omega)
  subst hq
  obtain ⟨e1, e2⟩ := n64_in ⟨q1, q2⟩
  unfold e64 at this
  rw [e1, e2] at this
  exact this
theorem mduv (a b c : Int) (h : List (Option Chunk)) (ha : -9223372036854775808 ≤ a) (ha' : a < 9223372036854775808) (hb : -9223372036854775808 ≤ b) (hb' : b < 9223372036854775808) (hc : 0 < c) (hcc : c < 9223372036854775808) (q : Int) (hq : -(-(a * b) / c) = q) (q1 : -9223372036854775808 ≤ q) (q2 : q < 9223372036854775808) : CallOK Try.prog 42 [.int .i64 a, .int .i64 b, .int .i64 c] h (.tuple #[.int .i64 q, .int .i64 0]) [] [] := by
  obtain ⟨n, rfl⟩ := Int.eq_ofNat_of_zero_le (by omega : 0 ≤ c)
  have := cMuldivup a b n h ha ha' hb hb' (by omega) (by omega)
  subst hq
  obtain ⟨e1, e2⟩ := n64_in ⟨q1, q2⟩
  unfold e64 at this
  rw [e1, e2] at this
  exact this
theorem wsmall (n : Int) (h1 : -9223372036854775808 ≤ n) (h2 : n < 9223372036854775808) : IntKind.i64.wrap n = n := by rw [IntKind.wrap_i64]; omega
theorem quot_le {a c : Int} (k : Int) (h0 : 0 ≤ a) (hc : 0 < c) (h : a ≤ k * c) : 0 ≤ a / c ∧ a / c ≤ k :=
  ⟨Int.ediv_nonneg h0 (by omega), by
    have := Int.ediv_le_ediv hc h
    rwa [Int.mul_ediv_cancel _ (by omega)] at this⟩
theorem cFineMul (d g : Int) (h : List (Option Chunk)) (hd : -1000 ≤ d ∧ d ≤ 1000) (hg : 0 ≤ g ∧ g ≤ 70368744177664) : CallOK Try.prog 41 [.int .i64 g, .int .i64 (IntKind.i64.wrap (1000000 + d)), .int .i64 1000000] h (.tuple #[.int .i64 (g * (1000000 + d) / 1000000), .int .i64 0]) [] [] := by
  rw [wsmall (1000000 + d) (by omega) (by omega)]
  have h0 : 0 ≤ g * (1000000 + d) := Int.mul_nonneg (by omega) (by omega)
  have h1 : g * (1000000 + d) ≤ 70368744177664 * 1001000 := Int.mul_le_mul (by omega) (by omega) (by omega) (by omega)
  exact mdv _ _ _ _ (by omega) (by omega) (by omega) (by omega) (by omega) (by omega) _ rfl (by omega) (by omega)
def spLo (d x : Int) : Int := max 0 (d - 1) * 1000000 / (1000000 + x)
def spHi (d x : Int) : Int := -(-((d + 1) * 1000000) / (1000000 - x))
theorem neg_quot {a c k : Int} (h0 : 0 ≤ a) (hc : 0 < c) (h : a ≤ k * c) : 0 ≤ -(-a / c) ∧ -(-a / c) ≤ k := by
  have h1 : -k ≤ -a / c := Int.le_ediv_of_mul_le hc (by rw [Int.neg_mul]; omega)
  have h2 : -a / c ≤ 0 := by
    have := Int.ediv_le_ediv hc (by omega : -a ≤ 0)
    rwa [Int.zero_ediv] at this
  omega
theorem spLo_in (d x : Int) (hd : 0 ≤ d ∧ d ≤ 70368744177664) (hx : 0 ≤ x ∧ x ≤ 1000) : 0 ≤ spLo d x ∧ spLo d x ≤ 70368744177664 := by
  unfold spLo
  exact quot_le _ (Int.mul_nonneg (by omega) (by omega)) (by omega) (Int.mul_le_mul (by omega) (by omega) (by omega) (by omega))
theorem spHi_in (d x : Int) (hd : 0 ≤ d ∧ d ≤ 70368744177664) (hx : 0 ≤ x ∧ x ≤ 1000) : 0 ≤ spHi d x ∧ spHi d x ≤ 140737488355330 := by
  unfold spHi
  exact neg_quot (Int.mul_nonneg (by omega) (by omega)) (by omega) (by omega)
theorem cSpLo (d x : Int) (h : List (Option Chunk)) (hd : 0 ≤ d ∧ d ≤ 70368744177664) (hx : 0 ≤ x ∧ x ≤ 1000) : CallOK Try.prog 41 [.int .i64 (max 0 (IntKind.i64.wrap (d - 1))), .int .i64 1000000, .int .i64 (IntKind.i64.wrap (1000000 + x))] h (.tuple #[.int .i64 (spLo d x), .int .i64 0]) [] [] := by
  rw [wsmall (1000000 + x) (by omega) (by omega), wsmall (d - 1) (by omega) (by omega)]
  have := spLo_in d x hd hx
  exact mdv _ _ _ _ (by omega) (by omega) (by omega) (by omega) (by omega) (by omega) _ rfl (by omega) (by omega)
theorem cSpHi (d x : Int) (h : List (Option Chunk)) (hd : 0 ≤ d ∧ d ≤ 70368744177664) (hx : 0 ≤ x ∧ x ≤ 1000) : CallOK Try.prog 42 [.int .i64 (IntKind.i64.wrap (d + 1)), .int .i64 1000000, .int .i64 (IntKind.i64.wrap (1000000 - x))] h (.tuple #[.int .i64 (spHi d x), .int .i64 0]) [] [] := by
  rw [wsmall (1000000 - x) (by omega) (by omega), wsmall (d + 1) (by omega) (by omega)]
  have := spHi_in d x hd hx
  exact mduv _ _ _ _ (by omega) (by omega) (by omega) (by omega) (by omega) (by omega) _ rfl (by omega) (by omega)
set_option maxRecDepth 100000 in
theorem fine_x (drift off g : Int)  (w : World) : Calls Try.prog 16 #[.int .i64 drift, .int .i64 off, .int .i64 g] w fun e w' => e = .returned (fineV drift off g) ∧ Below w.heap.size w w' := by
  refine calls_pure (G := tys) w tysOK mixed Try.func16 (by rfl) (by first | rfl | (simp only [List.all_cons, List.all_nil, plain_wz, plain_lim, plain_wi]; rfl)) (by first | exact plain3_wz _ | exact plain3_wi _ _ _ | rfl | (simp only [plain3, List.all_cons, List.all_nil, plain_wz, plain_lim, plain_wi]; rfl)) ?_
  repeat' (refine N.go ?_; first | with_reducible refine N.obl (by decide) ?_ | with_reducible refine N.obl (flat_wi _ _ _) ?_ | with_reducible refine N.obl (flat_lim _ _) ?_ | with_reducible refine N.eq ?_ | with_reducible refine N.obl rfl ?_ | with_reducible refine N.obl ⟨by kernel_rfl, by kernel_rfl⟩ ?_ | with_reducible refine N.forkT ?_ | with_reducible refine N.forkF ?_ | with_reducible refine N.call (cIn _ _ _ _) ?_ | with_reducible refine N.call (cFineMul _ _ _ (by simp only [Bool.not_eq_false', decide_eq_true_eq] at *; omega) (by simp only [Bool.not_eq_false', decide_eq_true_eq] at *; omega)) ?_ | refine N.forkNo (by decide) ?_ | refine N.forkYes (by decide) ?_ | with_reducible refine N.fork (fun hb => ?_) (fun hb => ?_))
  all_goals simp only [Bool.not_eq_false', Bool.not_eq_true', decide_eq_true_eq, decide_eq_false_iff_not] at *
  · unfold fineV; rw [if_neg (fun h => hb h.1), if_neg (fun h => hb h.1)]
  · unfold fineV; rw [if_neg (fun h => hb h.2.1), if_neg (fun h => hb h.2.1)]
  · unfold fineV; rw [if_neg (fun h => hb h.2.2), if_neg (fun h => hb h.2.2)]
  · rename_i h1 h2
    have ho : fineOK drift off g := ⟨h1, h2, hb⟩
    have a0 : 0 ≤ g * (1000000 + drift) := Int.mul_nonneg (by omega) (by omega)
    have a1 : g * (1000000 + drift) ≤ 70368744177664 * 1001000 := Int.mul_le_mul (by omega) (by omega) (by omega) (by omega)
    unfold fineV; rw [if_pos ho, if_pos ho, wsmall _ (by omega) (by omega)]
    rfl
theorem cFine (a b c : Int) (h : List (Option Chunk)) : CallOK Try.prog 16 [.int .i64 a, .int .i64 b, .int .i64 c] h (fineV a b c) [] [] :=
  call_pure rfl rfl (Try.call16 _) (fine_x a b c)
def spanOK (d x : Int) : Prop := (0 ≤ d ∧ d ≤ 70368744177664) ∧ (0 ≤ x ∧ x ≤ 1000)
instance (a b : Int) : Decidable (spanOK a b) := by unfold spanOK; infer_instance
def spanV (d x : Int) : Value := .tuple #[.int .i64 (if spanOK d x then spLo d x else 0), .int .i64 (if spanOK d x then spHi d x else 0), .int .i64 (if spanOK d x then 0 else 1)]
set_option maxRecDepth 100000 in
theorem span_x (d x : Int)  (w : World) : Calls Try.prog 15 #[.int .i64 d, .int .i64 x] w fun e w' => e = .returned (spanV d x) ∧ Below w.heap.size w w' := by
  refine calls_pure (G := tys) w tysOK mixed Try.func15 (by rfl) (by first | rfl | (simp only [List.all_cons, List.all_nil, plain_wz, plain_lim, plain_wi]; rfl)) (by first | exact plain3_wz _ | exact plain3_wi _ _ _ | rfl | (simp only [plain3, List.all_cons, List.all_nil, plain_wz, plain_lim, plain_wi]; rfl)) ?_
  repeat' (refine N.go ?_; first | with_reducible refine N.obl (by decide) ?_ | with_reducible refine N.obl (flat_wi _ _ _) ?_ | with_reducible refine N.obl (flat_lim _ _) ?_ | with_reducible refine N.eq ?_ | with_reducible refine N.obl rfl ?_ | with_reducible refine N.obl ⟨by kernel_rfl, by kernel_rfl⟩ ?_ | with_reducible refine N.forkT ?_ | with_reducible refine N.forkF ?_ | with_reducible refine N.call (cIn _ _ _ _) ?_ | with_reducible refine N.call (cSpLo _ _ _ (by simp only [Bool.not_eq_false', decide_eq_true_eq] at *; omega) (by simp only [Bool.not_eq_false', decide_eq_true_eq] at *; omega)) ?_ | with_reducible refine N.call (cSpHi _ _ _ (by simp only [Bool.not_eq_false', decide_eq_true_eq] at *; omega) (by simp only [Bool.not_eq_false', decide_eq_true_eq] at *; omega)) ?_ | with_reducible refine N.min2 ?_ | with_reducible refine N.max2 ?_ | refine N.forkNo (by decide) ?_ | refine N.forkYes (by decide) ?_ | with_reducible refine N.fork (fun hb => ?_) (fun hb => ?_))
  all_goals simp only [Bool.not_eq_false', Bool.not_eq_true', decide_eq_true_eq, decide_eq_false_iff_not] at *
  · unfold spanV; rw [if_neg (fun h => hb h.1), if_neg (fun h => hb h.1), if_neg (fun h => hb h.1)]
  · unfold spanV; rw [if_neg (fun h => hb h.2), if_neg (fun h => hb h.2), if_neg (fun h => hb h.2)]
  · rename_i h1
    have ho : spanOK d x := ⟨h1, hb⟩
    unfold spanV; rw [if_pos ho, if_pos ho, if_pos ho]
theorem cSpan (a b : Int) (h : List (Option Chunk)) : CallOK Try.prog 15 [.int .i64 a, .int .i64 b] h (spanV a b) [] [] :=
  call_pure rfl rfl (Try.call15 _) (span_x a b)
end Go.Proofs.Ytioohgocbpdkeaa
