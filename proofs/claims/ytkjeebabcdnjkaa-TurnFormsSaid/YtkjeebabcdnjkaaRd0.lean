/-
  The walks of the document's numbers: Mul, Div, Neg, Int64.
-/
import Derived.Test.YtkjeebabcdnjkaaRc
set_option linter.unusedVariables false
set_option linter.unusedSimpArgs false
namespace Go.Proofs.Ytkjeebabcdnjkaa
open Go Go.RowKit Sx

theorem lm01 {y : Nat} (h : y < 4294967296) : lm y 0 = y ∧ lm y 1 = 0 := ⟨by unfold lm; rw [bw_zero, Nat.div_one]; exact Nat.mod_eq_of_lt h, lm_big (by rw [bw_one]; exact h)⟩
theorem writes_z {y q : Nat} {x : Int} (e : q = 0) (hx : x = (y : Int)) (hy : y < 4294967296) : Writes ⟨true, 2, [(0, 2, .agg ⟨segL 2 (repZ 1 (.int .u32 0))⟩)]⟩ q 1 (.int .u32 x) (numC true 2 y) := by
  subst e hx
  refine ⟨rfl, by show 0 + 1 ≤ 2; decide, rfl, fun j hj => ?_⟩
  have hj : j < 2 := hj
  rw [seg_cell hj]
  match j, hj with
  | 0, _ => rw [(lm01 hy).1]; rfl
  | 1, _ => rw [(lm01 hy).2]; rfl
theorem writes_z1 {y q : Nat} {x : Int} (e : q = 1) (hx : x = 0) (hy : y < 4294967296) : Writes (numC true 2 y) q 1 (.int .u32 x) (numC true 2 y) := by
  subst e hx
  refine ⟨rfl, by show 1 + 1 ≤ 2; decide, rfl, fun j hj => ?_⟩
  have hj : j < 2 := hj
  rw [seg_cell hj]
  match j, hj with
  | 0, _ => rw [if_neg (by omega)]
  | 1, _ => rw [(lm01 hy).2]; rfl
set_option maxRecDepth 100000 in
set_option maxHeartbeats 2000000 in
theorem cQuoLt (a y m q i j : Nat) (o o2 : Chunk) (h : List (Option Chunk)) (hi : h[i]? = some (some o)) (hin : IsNum o m a) (hj : h[j]? = some (some o2)) (hjn : IsNum o2 q y) (hl : nl a ≤ m) (hm : m ≤ 20) (hl2 : nl y ≤ q) (hq : q ≤ 20) (hlt : a < y) :
    CallOK Try.prog 39 [.slice (some ⟨i, 0, some 0⟩) (nl a) m, .slice (some ⟨j, 0, some 0⟩) (nl y) q] h (.tuple #[.slice none 0 0, .slice (some ⟨i, 0, some 0⟩) (nl a) m]) [] [i, j] := by
  have hcm : cmpN a y = -1 := by unfold cmpN; rw [if_pos hlt]
  refine call_sub (G := tys) [⟨i, _, numC false m a, ⟨false, 0, []⟩⟩, ⟨j, _, numC false q y, ⟨false, 0, []⟩⟩] [] [.slice (some ⟨0, 0, some 0⟩) (nl a) m, .slice (some ⟨1, 0, some 0⟩) (nl y) q] tysOK mixed Try.func39 (by rfl) (Try.call39) ⟨hi, hj, trivial⟩ ⟨⟨fun h => (by cases h), Nat.le_of_eq hin.1.symm, num_re hin⟩, ⟨fun h => (by cases h), Nat.le_of_eq hjn.1.symm, num_re hjn⟩, trivial⟩ (by simp [Apart]) trivial ⟨.slice rfl, .slice rfl, trivial⟩ ?_
  repeat' (refine N.go ?_; first | with_reducible refine N.obl (by decide) ?_ | with_reducible refine N.obl (flat_wi _ _ _) ?_ | with_reducible refine N.obl (flat_lim _ _) ?_ | with_reducible refine N.eq ?_ | with_reducible refine N.obl rfl ?_ | with_reducible refine N.obl ⟨by kernel_rfl, by kernel_rfl⟩ ?_ | with_reducible refine N.forkT ?_ | with_reducible refine N.forkF ?_ | refine N.call (cCmp a y m q _ _ _ _ _ (by rfl) (isNum _ _ _) (by rfl) (isNum _ _ _) hl (by omega) (by omega) (by omega)) ?_ | refine N.forkYes (by rw [hcm]; decide) ?_ | refine N.obl (.tuple ⟨.plain rfl, .slice (by rfl), trivial⟩) ?_ | refine N.forkNo (by decide) ?_ | refine N.forkYes (by decide) ?_ | refine N.forkYes (by rw [decide_eq_true_eq]; omega) ?_ | refine N.forkNo (by rw [decide_eq_false_iff_not]; omega) ?_ | refine N.obl trivial ?_ | exact N.true | fail_if_success skip)
set_option maxRecDepth 100000 in
set_option maxHeartbeats 2000000 in
theorem cPlusNil (y q j K : Nat) (o2 : Chunk) (h : List (Option Chunk)) (hj : h[j]? = some (some o2)) (hjn : IsNum o2 q y) (hy : nl y = 1) (hq : 1 ≤ q ∧ q ≤ 20) (h0 : h[K]? = some none) :
    CallOK Try.prog 41 [.slice none 0 0, .slice (some ⟨j, 0, some 0⟩) (nl y) q] h (.slice (some ⟨K, 0, some 0⟩) (nl y) 2) [(K, numC true 2 y)] [j] := by
  have hy1 : y < 4294967296 := by have := nl_self y; rw [hy, bw_one] at this; exact this
  have hy0 : lm y 0 = y := by unfold lm; rw [bw_zero, Nat.div_one]; exact Nat.mod_eq_of_lt hy1
  have hb2 : y < bw 2 := by have : bw 2 = 18446744073709551616 := by decide
                            omega
  rw [hy]
  refine call_sub (G := tys) [⟨j, _, numC false q y, ⟨false, 0, []⟩⟩] [⟨K, 5, numC true 2 y⟩] [.slice none 0 0, .slice (some ⟨0, 0, some 0⟩) 1 q] tysOK mixed Try.func41 (by rfl) (Try.call41) ⟨hj, trivial⟩ ⟨⟨fun h => (by cases h), Nat.le_of_eq hjn.1.symm, num_re hjn⟩, trivial⟩ (by simp [Apart]) ⟨⟨h0, rfl, by show 0 < 2; decide, by simp⟩, trivial⟩ ⟨.plain rfl, .slice rfl, trivial⟩ ?_
  have ev : IntKind.u64.wrap (0 + IntKind.u64.wrap ((lm y 0 : Nat) : Int)) = (y : Int) := by rw [hy0, w64 (by omega), Int.zero_add, w64 (by omega)]
  repeat' (refine N.go ?_; first | with_reducible refine N.obl (by decide) ?_ | with_reducible refine N.obl (flat_wi _ _ _) ?_ | with_reducible refine N.obl (flat_lim _ _) ?_ | with_reducible refine N.eq ?_ | with_reducible refine N.obl rfl ?_ | with_reducible refine N.obl ⟨by kernel_rfl, by kernel_rfl⟩ ?_ | with_reducible refine N.forkT ?_ | with_reducible refine N.forkF ?_ | refine MakeN.mk1 2 2 (by decide) (by decide) (by decide) (by decide) rfl ?_ | refine N.roll 2 ?_ | refine N.idx 0 1 rfl (by omega) ?_ | refine N.load _ (reads_num (p := 0) (by omega) (by omega)) ?_ | refine N.store _ (writes_z rfl (by rw [ev, w32]; omega) hy1) ?_ | refine N.store _ (writes_z1 rfl (by rw [ev, fd32, w32]; omega) hy1) ?_ | refine N.idx 1 1 rfl (by decide) ?_ | refine N.call (cTrim y 2 2 _ _ _ (by rfl) (isNum _ _ _) (Nat.le_refl _) (by decide) hb2) ?_ | refine N.obl (re_sl (by rfl) hy.symm) ?_ | refine N.obl ⟨⟨by show 1 ≤ 5; decide, post_num (by rfl) rfl (isNum _ _ _)⟩, trivial⟩ ?_ | refine N.forkNo (by decide) ?_ | refine N.forkYes (by decide) ?_ | refine N.forkYes (by rw [decide_eq_true_eq]; omega) ?_ | refine N.forkNo (by rw [decide_eq_false_iff_not]; omega) ?_ | refine N.obl trivial ?_ | exact N.true | fail_if_success skip)
theorem or_zero (x : Nat) (hx : x < 4294967296) : IntKind.u64.wrap ((BitVec.ofInt IntKind.u64.bits 0 ||| BitVec.ofInt IntKind.u64.bits ((x : Nat) : Int)).toNat : Nat) = ((x : Nat) : Int) := by
  have := or_add 0 x (by decide) hx
  rw [Nat.zero_mul, Nat.zero_add] at this
  exact this
theorem or_add' (r x : Nat) (hr : r < 4294967296) (hx : x < 4294967296) : IntKind.u64.wrap ((BitVec.ofInt IntKind.u64.bits ((x : Nat) : Int) ||| BitVec.ofInt IntKind.u64.bits (((r * 4294967296 : Nat) : Int))).toNat : Nat) = ((r * 4294967296 + x : Nat) : Int) := by
  rw [BitVec.or_comm]; exact or_add r x hr hx
theorem i64w0 (x v : Nat) (hx : x < 4294967296) (e : x = v) : IntKind.u64.wrap ((BitVec.ofInt IntKind.u64.bits 0 ||| BitVec.ofInt IntKind.u64.bits (IntKind.u64.wrap (IntKind.u64.wrap ((x : Nat) : Int) * 2 ^ sh (IntKind.u64.wrap (IntKind.i64.wrap (32 * 0))) IntKind.u64))).toNat : Nat) = (v : Int) := by
  subst e
  rw [show sh (IntKind.u64.wrap (IntKind.i64.wrap (32 * 0))) IntKind.u64 = 0 from by decide, Int.pow_zero, Int.mul_one, w64 (n := x) (by omega), w64 (n := x) (by omega)]
  exact or_zero x hx
theorem i64w1 (x z v : Nat) (hx : x < 4294967296) (hz : z < 4294967296) (e : z * 4294967296 + x = v) : IntKind.u64.wrap ((BitVec.ofInt IntKind.u64.bits (IntKind.u64.wrap ((BitVec.ofInt IntKind.u64.bits 0 ||| BitVec.ofInt IntKind.u64.bits (IntKind.u64.wrap (IntKind.u64.wrap ((x : Nat) : Int) * 2 ^ sh (IntKind.u64.wrap (IntKind.i64.wrap (32 * 0))) IntKind.u64))).toNat : Nat)) ||| BitVec.ofInt IntKind.u64.bits (IntKind.u64.wrap (IntKind.u64.wrap ((z : Nat) : Int) * 2 ^ sh (IntKind.u64.wrap (IntKind.i64.wrap (32 * IntKind.i64.wrap (0 + 1)))) IntKind.u64))).toNat : Nat) = (v : Int) := by
  subst e
  rw [i64w0 x x hx rfl, show sh (IntKind.u64.wrap (IntKind.i64.wrap (32 * IntKind.i64.wrap (0 + 1)))) IntKind.u64 = 32 from by decide, w64 (n := z) (by omega), show ((z : Int) * 2 ^ 32) = ((z * 4294967296 : Nat) : Int) from by omega, w64 (n := z * 4294967296) (by omega)]
  exact or_add' z x hz hx
set_option maxRecDepth 100000 in
set_option maxHeartbeats 2000000 in
theorem cRI64 (v m i : Nat) (o : Chunk) (h : List (Option Chunk)) (hi : h[i]? = some (some o)) (hin : IsNum o m v) (hl : nl v ≤ m) (hm : m ≤ 20) (hv : v < 9223372036854775808) :
    CallOK Try.prog 34 [.agg #[.bool false, .bool false, .slice (some ⟨i, 0, some 0⟩) (nl v) m]] h (.tuple #[.int .i64 (v : Int), .bool true]) [] [i] := by
  have h2 : nl v ≤ 2 := (two_words (by omega)).2
  refine call_sub (G := tys) [⟨i, _, numC false m v, ⟨false, 0, []⟩⟩] [] [.agg #[.bool false, .bool false, .slice (some ⟨0, 0, some 0⟩) (nl v) m]] tysOK mixed Try.func34 (by rfl) (Try.call34) ⟨hi, trivial⟩ ⟨⟨fun h => (by cases h), Nat.le_of_eq hin.1.symm, num_re hin⟩, trivial⟩ (by simp [Apart]) trivial ⟨.agg ⟨.plain rfl, .plain rfl, .slice rfl, trivial⟩, trivial⟩ ?_
  rcases (show nl v = 0 ∨ nl v = 1 ∨ nl v = 2 by omega) with e | e | e
  · obtain rfl := nl_zero_iff.1 e
    repeat' (refine N.go ?_; first | with_reducible refine N.obl (by decide) ?_ | with_reducible refine N.obl (flat_wi _ _ _) ?_ | with_reducible refine N.obl (flat_lim _ _) ?_ | with_reducible refine N.eq ?_ | with_reducible refine N.obl rfl ?_ | with_reducible refine N.obl ⟨by kernel_rfl, by kernel_rfl⟩ ?_ | with_reducible refine N.forkT ?_ | with_reducible refine N.forkF ?_ | refine N.roll 1 ?_ | refine N.forkNo (by rw [nl_zero]; decide) ?_ | refine N.obl (re_eqn (by decide) rfl) ?_ | refine N.obl (.plain (by rfl)) ?_ | refine N.idx 0 1 rfl (by omega) ?_ | refine N.load _ (reads_num (p := 0) (by omega) (by omega)) ?_ | refine N.idx 1 1 rfl (by omega) ?_ | refine N.load _ (reads_num (p := 1) (by omega) (by omega)) ?_ | refine N.forkNo (by decide) ?_ | refine N.forkYes (by decide) ?_ | refine N.forkYes (by rw [decide_eq_true_eq]; omega) ?_ | refine N.forkNo (by rw [decide_eq_false_iff_not]; omega) ?_ | refine N.obl trivial ?_ | exact N.true | fail_if_success skip)
  · have hv1 : v < 4294967296 := by have := nl_self v; rw [e, bw_one] at this; exact this
    have hy0 := (lm01 hv1).1
    rw [e] at hl ⊢
    have ev := i64w0 (lm v 0) v (lm_lt v 0) hy0
    repeat' (refine N.go ?_; first | with_reducible refine N.obl (by decide) ?_ | with_reducible refine N.obl (flat_wi _ _ _) ?_ | with_reducible refine N.obl (flat_lim _ _) ?_ | with_reducible refine N.eq ?_ | with_reducible refine N.obl rfl ?_ | with_reducible refine N.obl ⟨by kernel_rfl, by kernel_rfl⟩ ?_ | with_reducible refine N.forkT ?_ | with_reducible refine N.forkF ?_ | refine N.roll 2 ?_ | refine N.forkNo (by rw [decide_eq_false_iff_not, ev]; omega) ?_ | refine N.obl (re_eqn (by rw [ev, i64n _ (by omega) (by omega)]) rfl) ?_ | refine N.idx 0 1 rfl (by omega) ?_ | refine N.load _ (reads_num (p := 0) (by omega) (by omega)) ?_ | refine N.idx 1 1 rfl (by omega) ?_ | refine N.load _ (reads_num (p := 1) (by omega) (by omega)) ?_ | refine N.forkNo (by decide) ?_ | refine N.forkYes (by decide) ?_ | refine N.forkYes (by rw [decide_eq_true_eq]; omega) ?_ | refine N.forkNo (by rw [decide_eq_false_iff_not]; omega) ?_ | refine N.obl trivial ?_ | exact N.true | fail_if_success skip)
  · have h3 : v < bw 2 := by rw [← e]; exact nl_self v
    rw [e] at hl ⊢
    have ev := i64w1 (lm v 0) (lm v 1) v (lm_lt v 0) (lm_lt v 1) (by
      have h4 : v / bw 0 = v / bw 1 * 4294967296 + lm v 0 := up_word v 0
      have h5 : v / bw 1 = v / bw 2 * 4294967296 + lm v 1 := up_word v 1
      rw [Nat.div_eq_of_lt h3] at h5
      rw [bw_zero, Nat.div_one] at h4
      omega)
    repeat' (refine N.go ?_; first | with_reducible refine N.obl (by decide) ?_ | with_reducible refine N.obl (flat_wi _ _ _) ?_ | with_reducible refine N.obl (flat_lim _ _) ?_ | with_reducible refine N.eq ?_ | with_reducible refine N.obl rfl ?_ | with_reducible refine N.obl ⟨by kernel_rfl, by kernel_rfl⟩ ?_ | with_reducible refine N.forkT ?_ | with_reducible refine N.forkF ?_ | refine N.roll 3 ?_ | refine N.forkNo (by rw [decide_eq_false_iff_not, ev]; omega) ?_ | refine N.obl (re_eqn (by rw [ev, i64n _ (by omega) (by omega)]) rfl) ?_ | refine N.idx 0 1 rfl (by omega) ?_ | refine N.load _ (reads_num (p := 0) (by omega) (by omega)) ?_ | refine N.idx 1 1 rfl (by omega) ?_ | refine N.load _ (reads_num (p := 1) (by omega) (by omega)) ?_ | refine N.forkNo (by decide) ?_ | refine N.forkYes (by decide) ?_ | refine N.forkYes (by rw [decide_eq_true_eq]; omega) ?_ | refine N.forkNo (by rw [decide_eq_false_iff_not]; omega) ?_ | refine N.obl trivial ?_ | exact N.true | fail_if_success skip)
end Go.Proofs.Ytkjeebabcdnjkaa
