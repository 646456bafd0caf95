/-
  The walks of wide.Div by one digit, of Neg, Int64, narrow, above, MulDiv, MulDivUp (third part).
-/
import Derived.Test.YtioohgocbpdkeaaRt2
import Derived.Test.YtioohgocbpdkeaaI64
set_option linter.unusedVariables false
set_option linter.unusedSimpArgs false
namespace Go.Proofs.Ytioohgocbpdkeaa
open Go Go.RowKit Sx

theorem cDivz (z : Int) (b : Nat) (h : List (Option Chunk)) (hz : z.natAbs < Top) (hb0 : 0 < b) (hbb : b < 18446744073709551616) : CallOK Try.prog 53 [wz z, wz (b : Int)] h (.tuple #[wz (z / (b : Int)), .int .i64 0]) [] [] :=
  call_pure (by simp [plain_wz]) (by simp [plain3, plain_wz]; rfl) (Try.call53 _) fun w => by
    have := div_x z b hz hb0 hbb w
    rw [show wz (b : Int) = .agg ⟨wiL false false b⟩ from by unfold wz; rw [decide_eq_false (by omega), Int.natAbs_natCast]]
    exact this
theorem div_top (z : Int) (b : Nat) (hz : z.natAbs < Top) (hb0 : 0 < b) : (z / (b : Int)).natAbs < Top := by
  rw [floor_of z b hb0]
  have h1 := Nat.div_add_mod z.natAbs b
  have h3 : z.natAbs / b ≤ z.natAbs := Nat.div_le_self _ _
  split
  · rename_i h
    have : z.natAbs / b + 1 ≤ z.natAbs := by
      rcases Nat.eq_zero_or_pos (z.natAbs / b) with h2 | h2
      · rw [h2] at h1 ⊢; rw [Nat.mul_zero] at h1; omega
      · have : z.natAbs / b ≤ b * (z.natAbs / b) := Nat.le_mul_of_pos_left _ hb0
        omega
    omega
  · omega
set_option maxRecDepth 100000 in
theorem above_x (z : Int) (b : Nat) (hz : z.natAbs < Top) (hb0 : 0 < b) (hbb : b < 18446744073709551616) (w : World) : Calls Try.prog 56 #[wz z, wz (b : Int)] w fun e w' => e = .returned (.tuple #[wz (-(-z / (b : Int))), .int .i64 0]) ∧ Below w.heap.size w w' := by
  have h1 : (-z / (b : Int)).natAbs < Top := div_top _ _ (by rwa [Int.natAbs_neg]) hb0
  have h0 : (-z).natAbs < Top := by rwa [Int.natAbs_neg]
  refine calls_pure (G := tys) w tysOK mixed Try.func56 (by rfl) (by first | rfl | (simp only [List.all_cons, List.all_nil, plain_wz, plain_lim, plain_wi]; rfl)) (by first | exact plain3_wz _ | exact plain3_wi _ _ _ | rfl | (simp only [plain3, List.all_cons, List.all_nil, plain_wz, plain_lim, plain_wi]; rfl)) ?_
  repeat' (refine N.go ?_; first | with_reducible refine N.obl (flat_wi _ _ _) ?_ | with_reducible refine N.obl (flat_lim _ _) ?_ | with_reducible refine N.eq ?_ | with_reducible refine N.obl rfl ?_ | with_reducible refine N.obl ⟨by kernel_rfl, by kernel_rfl⟩ ?_ | with_reducible refine N.forkT ?_ | with_reducible refine N.forkF ?_ | with_reducible refine N.call (cNeg _ _ (by assumption)) ?_ | with_reducible refine N.call (cDivz _ _ _ h0 hb0 hbb) ?_)
  all_goals rfl
theorem cAbove (z : Int) (b : Nat) (h : List (Option Chunk)) (hz : z.natAbs < Top) (hb0 : 0 < b) (hbb : b < 18446744073709551616) : CallOK Try.prog 56 [wz z, wz (b : Int)] h (.tuple #[wz (-(-z / (b : Int))), .int .i64 0]) [] [] :=
  call_pure (by simp [plain_wz]) (by simp [plain3, plain_wz]; rfl) (Try.call56 _) (above_x z b hz hb0 hbb)
theorem mul_top (a b : Int) (ha : -9223372036854775808 ≤ a) (ha' : a < 9223372036854775808) (hb : -9223372036854775808 ≤ b) (hb' : b < 9223372036854775808) : a.natAbs < Bs ^ 16 ∧ b.natAbs < Bs ^ 16 ∧ (a * b).natAbs < Top := by
  have h1 : a.natAbs ≤ 9223372036854775808 := by omega
  have h2 : b.natAbs ≤ 9223372036854775808 := by omega
  refine ⟨bs16 (by omega), bs16 (by omega), ?_⟩
  rw [Int.natAbs_mul]
  exact Nat.lt_of_le_of_lt (Nat.mul_le_mul h1 h2) (Nat.lt_of_lt_of_le (by decide : 9223372036854775808 * 9223372036854775808 < 2 ^ 127) (Nat.pow_le_pow_right (by decide) (by decide : 127 ≤ TopBits) : 2 ^ 127 ≤ 2 ^ TopBits))
set_option maxRecDepth 100000 in
theorem muldiv_x (a b : Int) (c : Nat) (ha : -9223372036854775808 ≤ a) (ha' : a < 9223372036854775808) (hb : -9223372036854775808 ≤ b) (hb' : b < 9223372036854775808) (hc : 0 < c) (hcc : c < 9223372036854775808) (w : World) : Calls Try.prog 41 #[.int .i64 a, .int .i64 b, .int .i64 (c : Int)] w fun e w' => e = .returned (.tuple #[.int .i64 (n64 (a * b / (c : Int))), .int .i64 (e64 (a * b / (c : Int)))]) ∧ Below w.heap.size w w' := by
  obtain ⟨m1, m2, m3⟩ := mul_top a b ha ha' hb hb'
  have m4 : (a * b / (c : Int)).natAbs < Top := div_top _ _ m3 hc
  refine calls_pure (G := tys) w tysOK mixed Try.func41 (by rfl) (by first | rfl | (simp only [List.all_cons, List.all_nil, plain_wz, plain_lim, plain_wi]; rfl)) (by first | exact plain3_wz _ | exact plain3_wi _ _ _ | rfl | (simp only [plain3, List.all_cons, List.all_nil, plain_wz, plain_lim, plain_wi]; rfl)) ?_
  repeat' (refine N.go ?_; first | with_reducible refine N.obl (flat_wi _ _ _) ?_ | with_reducible refine N.obl (flat_lim _ _) ?_ | with_reducible refine N.eq ?_ | with_reducible refine N.obl rfl ?_ | with_reducible refine N.obl ⟨by kernel_rfl, by kernel_rfl⟩ ?_ | with_reducible refine N.forkT ?_ | with_reducible refine N.forkF ?_ | with_reducible refine N.call (cOfz _ _ ha ha') ?_ | with_reducible refine N.call (cOfz _ _ hb hb') ?_ | with_reducible refine N.call (cOfz _ _ (by omega) (by omega)) ?_ | with_reducible refine N.call (cMulz _ _ _ m1 m2 m3) ?_ | with_reducible refine N.call (cDivz _ _ _ m3 hc (by omega)) ?_ | with_reducible refine N.call (cNarrow _ _ m4) ?_)
  all_goals rfl
theorem cMuldiv (a b : Int) (c : Nat) (h : List (Option Chunk)) (ha : -9223372036854775808 ≤ a) (ha' : a < 9223372036854775808) (hb : -9223372036854775808 ≤ b) (hb' : b < 9223372036854775808) (hc : 0 < c) (hcc : c < 9223372036854775808) : CallOK Try.prog 41 [.int .i64 a, .int .i64 b, .int .i64 (c : Int)] h (.tuple #[.int .i64 (n64 (a * b / (c : Int))), .int .i64 (e64 (a * b / (c : Int)))]) [] [] :=
  call_pure rfl rfl (Try.call41 _) (muldiv_x a b c ha ha' hb hb' hc hcc)
set_option maxRecDepth 100000 in
theorem muldivup_x (a b : Int) (c : Nat) (ha : -9223372036854775808 ≤ a) (ha' : a < 9223372036854775808) (hb : -9223372036854775808 ≤ b) (hb' : b < 9223372036854775808) (hc : 0 < c) (hcc : c < 9223372036854775808) (w : World) : Calls Try.prog 42 #[.int .i64 a, .int .i64 b, .int .i64 (c : Int)] w fun e w' => e = .returned (.tuple #[.int .i64 (n64 (-(-(a * b) / (c : Int)))), .int .i64 (e64 (-(-(a * b) / (c : Int))))]) ∧ Below w.heap.size w w' := by
  obtain ⟨m1, m2, m3⟩ := mul_top a b ha ha' hb hb'
  have m4 : (-(-(a * b) / (c : Int))).natAbs < Top := by rw [Int.natAbs_neg]; exact div_top _ _ (by rwa [Int.natAbs_neg]) hc
  refine calls_pure (G := tys) w tysOK mixed Try.func42 (by rfl) (by first | rfl | (simp only [List.all_cons, List.all_nil, plain_wz, plain_lim, plain_wi]; rfl)) (by first | exact plain3_wz _ | exact plain3_wi _ _ _ | rfl | (simp only [plain3, List.all_cons, List.all_nil, plain_wz, plain_lim, plain_wi]; rfl)) ?_
  repeat' (refine N.go ?_; first | with_reducible refine N.obl (flat_wi _ _ _) ?_ | with_reducible refine N.obl (flat_lim _ _) ?_ | with_reducible refine N.eq ?_ | with_reducible refine N.obl rfl ?_ | with_reducible refine N.obl ⟨by kernel_rfl, by kernel_rfl⟩ ?_ | with_reducible refine N.forkT ?_ | with_reducible refine N.forkF ?_ | with_reducible refine N.call (cOfz _ _ ha ha') ?_ | with_reducible refine N.call (cOfz _ _ hb hb') ?_ | with_reducible refine N.call (cOfz _ _ (by omega) (by omega)) ?_ | with_reducible refine N.call (cMulz _ _ _ m1 m2 m3) ?_ | with_reducible refine N.call (cAbove _ _ _ m3 hc (by omega)) ?_ | with_reducible refine N.call (cNarrow _ _ m4) ?_)
  all_goals rfl
theorem cMuldivup (a b : Int) (c : Nat) (h : List (Option Chunk)) (ha : -9223372036854775808 ≤ a) (ha' : a < 9223372036854775808) (hb : -9223372036854775808 ≤ b) (hb' : b < 9223372036854775808) (hc : 0 < c) (hcc : c < 9223372036854775808) : CallOK Try.prog 42 [.int .i64 a, .int .i64 b, .int .i64 (c : Int)] h (.tuple #[.int .i64 (n64 (-(-(a * b) / (c : Int)))), .int .i64 (e64 (-(-(a * b) / (c : Int))))]) [] [] :=
  call_pure rfl rfl (Try.call42 _) (muldivup_x a b c ha ha' hb hb' hc hcc)
end Go.Proofs.Ytioohgocbpdkeaa
