/-
  The walks of the document's numbers: Mul, Div, Neg, Int64.
-/
import Derived.Test.YtioohgocbpdkeaaRc
set_option linter.unusedVariables false
set_option linter.unusedSimpArgs false
namespace Go.Proofs.Ytioohgocbpdkeaa
open Go Go.RowKit Sx

theorem lm01 {y : Nat} (h : y < 4294967296) : lm y 0 = y ∧ lm y 1 = 0 := ⟨by unfold lm; rw [bw_zero, Nat.div_one]; exact Nat.mod_eq_of_lt h, lm_big (by rw [bw_one]; exact h)⟩
theorem writes_z {y q : Nat} {x : Int} (e : q = 0) (hx : x = (y : Int)) (hy : y < 4294967296) : Writes ⟨true, 2, [(0, 2, .agg ⟨segL 2 (repZ 1 (.int .u32 0))⟩)]⟩ q 1 (.int .u32 x) (numC true 2 y) := by
  subst e hx
  refine ⟨rfl, by show 0 + 1 ≤ 2; decide, rfl, fun j hj => ?_⟩
  have hj : j < 2 := hj
  rw [seg_cell hj]
  match j, hj with
  | 0, _ => rw [(lm01 hy).1]; rfl
  | 1, _ => rw [(lm01 hy).2]; rfl
theorem writes_z1 {y q : Nat} {x : Int} (e : q = 1) (hx : x = 0) (hy : y < 4294967296) : Writes (numC true 2 y) q 1 (.int .u32 x) (numC true 2 y) := by
  subst e hx
  refine ⟨rfl, by show 1 + 1 ≤ 2; decide, rfl, fun j hj => ?_⟩
  have hj : j < 2 := hj
  rw [seg_cell hj]
  match j, hj with
  | 0, _ => rw [if_neg (by omega)]
  | 1, _ => rw [(lm01 hy).2]; rfl
set_option maxRecDepth 100000 in
set_option maxHeartbeats 2000000 in
theorem cQuoLt (a y m q i j : Nat) (o o2 : Chunk) (h : List (Option Chunk)) (hi : h[i]? = some (some o)) (hin : IsNum o m a) (hj : h[j]? = some (some o2)) (hjn : IsNum o2 q y) (hl : nl a ≤ m) (hm : m ≤ 20) (hl2 : nl y ≤ q) (hq : q ≤ 20) (hlt : a < y) :
    CallOK Try.prog 72 [.slice (some ⟨i, 0, some 0⟩) (nl a) m, .slice (some ⟨j, 0, some 0⟩) (nl y) q] h (.tuple #[.slice none 0 0, .slice (some ⟨i, 0, some 0⟩) (nl a) m]) [] [i, j] := by
  have hcm : cmpN a y = -1 := by unfold cmpN; rw [if_pos hlt]
  refine call_sub (G := tys) [⟨i, _, numC false m a, ⟨false, 0, []⟩⟩, ⟨j, _, numC false q y, ⟨false, 0, []⟩⟩] [] [.slice (some ⟨0, 0, some 0⟩) (nl a) m, .slice (some ⟨1, 0, some 0⟩) (nl y) q] tysOK mixed Try.func72 (by rfl) (Try.call72) ⟨hi, hj, trivial⟩ ⟨⟨fun h => (by cases h), Nat.le_of_eq hin.1.symm, num_re hin⟩, ⟨fun h => (by cases h), Nat.le_of_eq hjn.1.symm, num_re hjn⟩, trivial⟩ (by simp [Apart]) trivial ⟨.slice rfl, .slice rfl, trivial⟩ ?_
  repeat' (refine N.go ?_; first | with_reducible refine N.obl (by decide) ?_ | with_reducible refine N.obl (flat_wi _ _ _) ?_ | with_reducible refine N.obl (flat_lim _ _) ?_ | with_reducible refine N.eq ?_ | with_reducible refine N.obl rfl ?_ | with_reducible refine N.obl ⟨by kernel_rfl, by kernel_rfl⟩ ?_ | with_reducible refine N.forkT ?_ | with_reducible refine N.forkF ?_ | refine N.call (cCmp a y m q _ _ _ _ _ (by rfl) (isNum _ _ _) (by rfl) (isNum _ _ _) hl (by omega) (by omega) (by omega)) ?_ | refine N.forkYes (by rw [hcm]; decide) ?_ | refine N.obl (.tuple ⟨.plain rfl, .slice (by rfl), trivial⟩) ?_ | refine N.forkNo (by decide) ?_ | refine N.forkYes (by decide) ?_ | refine N.forkYes (by rw [decide_eq_true_eq]; omega) ?_ | refine N.forkNo (by rw [decide_eq_false_iff_not]; omega) ?_ | refine N.obl trivial ?_ | exact N.true | fail_if_success skip)
set_option maxRecDepth 100000 in
set_option maxHeartbeats 2000000 in
theorem cPlusNil (y q j K : Nat) (o2 : Chunk) (h : List (Option Chunk)) (hj : h[j]? = some (some o2)) (hjn : IsNum o2 q y) (hy : nl y = 1) (hq : 1 ≤ q ∧ q ≤ 20) (h0 : h[K]? = some none) :
    CallOK Try.prog 73 [.slice none 0 0, .slice (some ⟨j, 0, some 0⟩) (nl y) q] h (.slice (some ⟨K, 0, some 0⟩) (nl y) 2) [(K, numC true 2 y)] [j] := by
  have hy1 : y < 4294967296 := by have := nl_self y; rw [hy, bw_one] at this; exact this
  have hy0 : lm y 0 = y := by unfold lm; rw [bw_zero, Nat.div_one]; exact Nat.mod_eq_of_lt hy1
  have hb2 : y < bw 2 := by have : bw 2 = 18446744073709551616 := by decide
                            omega
  rw [hy]
  refine call_sub (G := tys) [⟨j, _, numC false q y, ⟨false, 0, []⟩⟩] [⟨K, 5, numC true 2 y⟩] [.slice none 0 0, .slice (some ⟨0, 0, some 0⟩) 1 q] tysOK mixed Try.func73 (by rfl) (Try.call73) ⟨hj, trivial⟩ ⟨⟨fun h => (by cases h), Nat.le_of_eq hjn.1.symm, num_re hjn⟩, trivial⟩ (by simp [Apart]) ⟨⟨h0, rfl, by show 0 < 2; decide, by simp⟩, trivial⟩ ⟨.plain rfl, .slice rfl, trivial⟩ ?_
  have ev : IntKind.u64.wrap (0 + IntKind.u64.wrap ((lm y 0 : Nat) : Int)) = (y : Int) := by rw [hy0, w64 (by omega), Int.zero_add, w64 (by omega)]
  repeat' (refine N.go ?_; first | with_reducible refine N.obl (by decide) ?_ | with_reducible refine N.obl (flat_wi _ _ _) ?_ | with_reducible refine N.obl (flat_lim _ _) ?_ | with_reducible refine N.eq ?_ | with_reducible refine N.obl rfl ?_ | with_reducible refine N.obl ⟨by kernel_rfl, by kernel_rfl⟩ ?_ | with_reducible refine N.forkT ?_ | with_reducible refine N.forkF ?_ | refine MakeN.mk1 2 2 (by decide) (by decide) (by decide) (by decide) rfl ?_ | refine N.roll 2 ?_ | refine N.idx 0 1 rfl (by omega) ?_ | refine N.load _ (reads_num (p := 0) (by omega) (by omega)) ?_ | refine N.store _ (writes_z rfl (by rw [ev, w32]; omega) hy1) ?_ | refine N.store _ (writes_z1 rfl (by rw [ev, fd32, w32]; omega) hy1) ?_ | refine N.idx 1 1 rfl (by decide) ?_ | refine N.call (cTrim y 2 2 _ _ _ (by rfl) (isNum _ _ _) (Nat.le_refl _) (by decide) hb2) ?_ | refine N.obl (re_sl (by rfl) hy.symm) ?_ | refine N.obl ⟨⟨by show 1 ≤ 5; decide, post_num (by rfl) rfl (isNum _ _ _)⟩, trivial⟩ ?_ | refine N.forkNo (by decide) ?_ | refine N.forkYes (by decide) ?_ | refine N.forkYes (by rw [decide_eq_true_eq]; omega) ?_ | refine N.forkNo (by rw [decide_eq_false_iff_not]; omega) ?_ | refine N.obl trivial ?_ | exact N.true | fail_if_success skip)
set_option maxRecDepth 100000 in
set_option maxHeartbeats 2000000 in
theorem cRMul (a y m q i j K : Nat) (o o2 : Chunk) (h : List (Option Chunk)) (hi : h[i]? = some (some o)) (hin : IsNum o m a) (hj : h[j]? = some (some o2)) (hjn : IsNum o2 q y) (hl : nl a ≤ m) (hm : m ≤ 20) (hy : nl y = 1) (hq : 1 ≤ q ∧ q ≤ 20) (h0 : h[K]? = some none) :
    CallOK Try.prog 58 [.agg #[.bool false, .bool false, .slice (some ⟨i, 0, some 0⟩) (nl a) m], .agg #[.bool false, .bool false, .slice (some ⟨j, 0, some 0⟩) (nl y) q]] h (.agg #[.bool false, .bool false, .slice (some ⟨K, 0, some 0⟩) (nl (a * y)) (nl a + 1)]) [(K, numC true (nl a + 1) (a * y))] [i, j] := by
  have hy1 : y < 4294967296 := by have := nl_self y; rw [hy, bw_one] at this; exact this
  refine call_sub (G := tys) [⟨i, _, numC false m a, ⟨false, 0, []⟩⟩, ⟨j, _, numC false q y, ⟨false, 0, []⟩⟩] [⟨K, 5, numC true (nl a + 1) (a * y)⟩] [.agg #[.bool false, .bool false, .slice (some ⟨0, 0, some 0⟩) (nl a) m], .agg #[.bool false, .bool false, .slice (some ⟨1, 0, some 0⟩) (nl y) q]] tysOK mixed Try.func58 (by rfl) (Try.call58) ⟨hi, hj, trivial⟩ ⟨⟨fun h => (by cases h), Nat.le_of_eq hin.1.symm, num_re hin⟩, ⟨fun h => (by cases h), Nat.le_of_eq hjn.1.symm, num_re hjn⟩, trivial⟩ (by simp [Apart]) ⟨⟨h0, rfl, by show 0 < nl a + 1; omega, by simp⟩, trivial⟩ ⟨.agg ⟨.plain rfl, .plain rfl, .slice rfl, trivial⟩, .agg ⟨.plain rfl, .plain rfl, .slice rfl, trivial⟩, trivial⟩ ?_
  repeat' (refine N.go ?_; first | with_reducible refine N.obl (by decide) ?_ | with_reducible refine N.obl (flat_wi _ _ _) ?_ | with_reducible refine N.obl (flat_lim _ _) ?_ | with_reducible refine N.eq ?_ | with_reducible refine N.obl rfl ?_ | with_reducible refine N.obl ⟨by kernel_rfl, by kernel_rfl⟩ ?_ | with_reducible refine N.forkT ?_ | with_reducible refine N.forkF ?_ | refine N.call (cTimes32 a y m q _ _ 5 _ _ _ (by rfl) (isNum _ _ _) (by rfl) (isNum _ _ _) hl hm hy hq (by rfl)) ?_ | refine N.call (cMade32 (a * y) (nl a + 1) _ _ false false rfl _ _ (by rfl) (isNum _ _ _) (nl_le.2 (mul_nl hy1)) (by omega) (nl_self _)) ?_ | refine N.obl (.one (.agg ⟨.plain (by rfl), .plain rfl, .slice (by rfl), trivial⟩)) ?_ | refine N.obl ⟨⟨by show 2 ≤ 5; decide, post_num (by rfl) rfl (isNum _ _ _)⟩, trivial⟩ ?_ | refine N.forkNo (by decide) ?_ | refine N.forkYes (by decide) ?_ | refine N.forkYes (by rw [decide_eq_true_eq]; omega) ?_ | refine N.forkNo (by rw [decide_eq_false_iff_not]; omega) ?_ | refine N.obl trivial ?_ | exact N.true | fail_if_success skip)
set_option maxRecDepth 100000 in
set_option maxHeartbeats 2000000 in
theorem cRNeg (v m i : Nat) (s r : Bool) (hr : r = (!s && decide (0 < v))) (o : Chunk) (h : List (Option Chunk)) (hi : h[i]? = some (some o)) (hin : IsNum o m v) (hl : nl v ≤ m) (hm : m ≤ 20) :
    CallOK Try.prog 61 [.agg #[.bool s, .bool false, .slice (some ⟨i, 0, some 0⟩) (nl v) m]] h (.agg #[.bool r, .bool false, .slice (some ⟨i, 0, some 0⟩) (nl v) m]) [] [i] := by
  refine call_sub (G := tys) [⟨i, _, numC false m v, ⟨false, 0, []⟩⟩] [] [.agg #[.bool s, .bool false, .slice (some ⟨0, 0, some 0⟩) (nl v) m]] tysOK mixed Try.func61 (by rfl) (Try.call61) ⟨hi, trivial⟩ ⟨⟨fun h => (by cases h), Nat.le_of_eq hin.1.symm, num_re hin⟩, trivial⟩ (by simp [Apart]) trivial ⟨.agg ⟨.plain rfl, .plain rfl, .slice rfl, trivial⟩, trivial⟩ ?_
  repeat' (refine N.go ?_; first | with_reducible refine N.obl (by decide) ?_ | with_reducible refine N.obl (flat_wi _ _ _) ?_ | with_reducible refine N.obl (flat_lim _ _) ?_ | with_reducible refine N.eq ?_ | with_reducible refine N.obl rfl ?_ | with_reducible refine N.obl ⟨by kernel_rfl, by kernel_rfl⟩ ?_ | with_reducible refine N.forkT ?_ | with_reducible refine N.forkF ?_ | refine N.call (cMade32 v m (nl v) _ (!s) r hr _ _ (by rfl) (isNum _ _ _) hl (by omega) (nl_self _)) ?_ | refine N.obl (.one (.agg ⟨.plain (by rfl), .plain rfl, .slice (by rfl), trivial⟩)) ?_ | refine N.forkNo (by decide) ?_ | refine N.forkYes (by decide) ?_ | refine N.forkYes (by rw [decide_eq_true_eq]; omega) ?_ | refine N.forkNo (by rw [decide_eq_false_iff_not]; omega) ?_ | refine N.obl trivial ?_ | exact N.true | fail_if_success skip)
theorem nl_one : nl 1 = 1 := nl_eq (by rw [bw_one]; decide) (by rw [bw_zero]; exact Nat.le_refl _)
theorem cPlusOne (a m i j K : Nat) (o o2 : Chunk) (h : List (Option Chunk)) (hi : h[i]? = some (some o)) (hin : IsNum o m a) (hj : h[j]? = some (some o2)) (hjn : IsNum o2 1 1) (hl : nl a ≤ m) (hm : m ≤ 20) (ha : nl a ≠ 0) (h0 : h[K]? = some none) :
    CallOK Try.prog 73 [.slice (some ⟨i, 0, some 0⟩) (nl a) m, .slice (some ⟨j, 0, some 0⟩) 1 1] h (.slice (some ⟨K, 0, some 0⟩) (nl (a + 1)) (nl a + 1)) [(K, numC true (nl a + 1) (a + 1))] [i, j] := by
  have H := cPlus a 1 m 1 i j K o o2 h hi hin hj hjn hl hm (by rw [nl_one]; omega) ⟨by rw [nl_one]; decide, by decide⟩ h0
  rw [nl_one] at H; exact H
theorem cPlusNilOne (j K : Nat) (o2 : Chunk) (h : List (Option Chunk)) (hj : h[j]? = some (some o2)) (hjn : IsNum o2 1 1) (h0 : h[K]? = some none) :
    CallOK Try.prog 73 [.slice none 0 0, .slice (some ⟨j, 0, some 0⟩) 1 1] h (.slice (some ⟨K, 0, some 0⟩) 1 2) [(K, numC true 2 1)] [j] := by
  have H := cPlusNil 1 1 j K o2 h hj hjn nl_one ⟨by decide, by decide⟩ h0
  rw [nl_one] at H; exact H
set_option maxRecDepth 100000 in
set_option maxHeartbeats 2000000 in
theorem cDivP (a y m q i j K : Nat) (o o2 : Chunk) (h : List (Option Chunk)) (hi : h[i]? = some (some o)) (hin : IsNum o m a) (hj : h[j]? = some (some o2)) (hjn : IsNum o2 q y) (hl : nl a ≤ m) (hm : m ≤ 18) (hy : nl y = 1) (hq : 1 ≤ q ∧ q ≤ 20) (hge : y ≤ a) (h0 : h[K]? = some none) :
    CallOK Try.prog 57 [.agg #[.bool false, .bool false, .slice (some ⟨i, 0, some 0⟩) (nl a) m], .agg #[.bool false, .bool false, .slice (some ⟨j, 0, some 0⟩) (nl y) q]] h (.tuple #[.agg #[.bool false, .bool false, .slice (some ⟨K, 0, some 0⟩) (nl (a / y)) (nl a)], .int .i64 0]) [(K, numC true (nl a) (a / y))] [i, j] := by
  have hy1 : y < 4294967296 := by have := nl_self y; rw [hy, bw_one] at this; exact this
  have hyp : 0 < y := by rcases Nat.eq_zero_or_pos y with e | e; (rw [e, nl_zero] at hy; omega); exact e
  have hna : nl a ≠ 0 := fun e => by have := nl_zero_iff.1 e; omega
  have hdl : nl (a / y) ≤ nl a := nl_le.2 (Nat.lt_of_le_of_lt (Nat.div_le_self _ _) (nl_self a))
  refine call_sub (G := tys) [⟨i, _, numC false m a, ⟨false, 0, []⟩⟩, ⟨j, _, numC false q y, ⟨false, 0, []⟩⟩] [⟨K, 5, numC true (nl a) (a / y)⟩] [.agg #[.bool false, .bool false, .slice (some ⟨0, 0, some 0⟩) (nl a) m], .agg #[.bool false, .bool false, .slice (some ⟨1, 0, some 0⟩) (nl y) q]] tysOK mixed Try.func57 (by rfl) (Try.call57) ⟨hi, hj, trivial⟩ ⟨⟨fun h => (by cases h), Nat.le_of_eq hin.1.symm, num_re hin⟩, ⟨fun h => (by cases h), Nat.le_of_eq hjn.1.symm, num_re hjn⟩, trivial⟩ (by simp [Apart]) ⟨⟨h0, rfl, by show 0 < nl a; omega, by simp⟩, trivial⟩ ⟨.agg ⟨.plain rfl, .plain rfl, .slice rfl, trivial⟩, .agg ⟨.plain rfl, .plain rfl, .slice rfl, trivial⟩, trivial⟩ ?_
  repeat' (refine N.go ?_; first | with_reducible refine N.obl (by decide) ?_ | with_reducible refine N.obl (flat_wi _ _ _) ?_ | with_reducible refine N.obl (flat_lim _ _) ?_ | with_reducible refine N.eq ?_ | with_reducible refine N.obl rfl ?_ | with_reducible refine N.obl ⟨by kernel_rfl, by kernel_rfl⟩ ?_ | with_reducible refine N.forkT ?_ | with_reducible refine N.forkF ?_ | refine N.call (cQuo a y m q _ _ 5 6 _ _ _ (by rfl) (isNum _ _ _) (by rfl) (isNum _ _ _) hl (by omega) hy hq hge (by rfl) (by rfl) (by decide)) ?_ | refine N.call (cMade32 (a / y) (nl a) _ _ false false rfl _ _ (by rfl) (isNum _ _ _) hdl (by omega) (nl_self _)) ?_ | refine N.obl (.tuple ⟨.agg ⟨.plain (by rfl), .plain rfl, .slice (by rfl), trivial⟩, .plain rfl, trivial⟩) ?_ | refine N.obl ⟨⟨by show 2 ≤ 5; decide, post_num (by rfl) rfl (isNum _ _ _)⟩, trivial⟩ ?_ | refine N.forkNo (by rw [hy]; rfl) ?_ | refine N.forkNo (by decide) ?_ | refine N.forkYes (by decide) ?_ | refine N.forkYes (by rw [decide_eq_true_eq]; omega) ?_ | refine N.forkNo (by rw [decide_eq_false_iff_not]; omega) ?_ | refine N.obl trivial ?_ | exact N.true | fail_if_success skip)
set_option maxRecDepth 100000 in
set_option maxHeartbeats 2000000 in
theorem cDivP0 (a y m q i j : Nat) (o o2 : Chunk) (h : List (Option Chunk)) (hi : h[i]? = some (some o)) (hin : IsNum o m a) (hj : h[j]? = some (some o2)) (hjn : IsNum o2 q y) (hl : nl a ≤ m) (hm : m ≤ 18) (hy : nl y = 1) (hq : 1 ≤ q ∧ q ≤ 20) (hlt : a < y) :
    CallOK Try.prog 57 [.agg #[.bool false, .bool false, .slice (some ⟨i, 0, some 0⟩) (nl a) m], .agg #[.bool false, .bool false, .slice (some ⟨j, 0, some 0⟩) (nl y) q]] h (.tuple #[.agg #[.bool false, .bool false, .slice none 0 0], .int .i64 0]) [] [i, j] := by
  have hy1 : y < 4294967296 := by have := nl_self y; rw [hy, bw_one] at this; exact this
  have hyp : 0 < y := by rcases Nat.eq_zero_or_pos y with e | e; (rw [e, nl_zero] at hy; omega); exact e
  refine call_sub (G := tys) [⟨i, _, numC false m a, ⟨false, 0, []⟩⟩, ⟨j, _, numC false q y, ⟨false, 0, []⟩⟩] [] [.agg #[.bool false, .bool false, .slice (some ⟨0, 0, some 0⟩) (nl a) m], .agg #[.bool false, .bool false, .slice (some ⟨1, 0, some 0⟩) (nl y) q]] tysOK mixed Try.func57 (by rfl) (Try.call57) ⟨hi, hj, trivial⟩ ⟨⟨fun h => (by cases h), Nat.le_of_eq hin.1.symm, num_re hin⟩, ⟨fun h => (by cases h), Nat.le_of_eq hjn.1.symm, num_re hjn⟩, trivial⟩ (by simp [Apart]) trivial ⟨.agg ⟨.plain rfl, .plain rfl, .slice rfl, trivial⟩, .agg ⟨.plain rfl, .plain rfl, .slice rfl, trivial⟩, trivial⟩ ?_
  repeat' (refine N.go ?_; first | with_reducible refine N.obl (by decide) ?_ | with_reducible refine N.obl (flat_wi _ _ _) ?_ | with_reducible refine N.obl (flat_lim _ _) ?_ | with_reducible refine N.eq ?_ | with_reducible refine N.obl rfl ?_ | with_reducible refine N.obl ⟨by kernel_rfl, by kernel_rfl⟩ ?_ | with_reducible refine N.forkT ?_ | with_reducible refine N.forkF ?_ | refine N.call (cQuoLt a y m q _ _ _ _ _ (by rfl) (isNum _ _ _) (by rfl) (isNum _ _ _) hl (by omega) (by omega) (by omega) hlt) ?_ | refine N.call (cMadeNil false _) ?_ | refine N.obl (.plain (by rfl)) ?_ | refine N.forkNo (by rw [hy]; rfl) ?_ | refine N.forkNo (by decide) ?_ | refine N.forkYes (by decide) ?_ | refine N.forkYes (by rw [decide_eq_true_eq]; omega) ?_ | refine N.forkNo (by rw [decide_eq_false_iff_not]; omega) ?_ | refine N.obl trivial ?_ | exact N.true | fail_if_success skip)
set_option maxRecDepth 100000 in
set_option maxHeartbeats 2000000 in
theorem cDivN1 (a y m q i j K : Nat) (o o2 : Chunk) (h : List (Option Chunk)) (hi : h[i]? = some (some o)) (hin : IsNum o m a) (hj : h[j]? = some (some o2)) (hjn : IsNum o2 q y) (hl : nl a ≤ m) (hm : m ≤ 18) (hy : nl y = 1) (hq : 1 ≤ q ∧ q ≤ 20) (hge : y ≤ a) (hz : a % y = 0) (h0 : h[K]? = some none) :
    CallOK Try.prog 57 [.agg #[.bool true, .bool false, .slice (some ⟨i, 0, some 0⟩) (nl a) m], .agg #[.bool false, .bool false, .slice (some ⟨j, 0, some 0⟩) (nl y) q]] h (.tuple #[.agg #[.bool true, .bool false, .slice (some ⟨K, 0, some 0⟩) (nl (a / y)) (nl a)], .int .i64 0]) [(K, numC true (nl a) (a / y))] [i, j] := by
  have hy1 : y < 4294967296 := by have := nl_self y; rw [hy, bw_one] at this; exact this
  have hyp : 0 < y := by rcases Nat.eq_zero_or_pos y with e | e; (rw [e, nl_zero] at hy; omega); exact e
  have hna : nl a ≠ 0 := fun e => by have := nl_zero_iff.1 e; omega
  have hdl : nl (a / y) ≤ nl a := nl_le.2 (Nat.lt_of_le_of_lt (Nat.div_le_self _ _) (nl_self a))
  have hdp : 0 < a / y := Nat.div_pos hge hyp
  have hz0 : nl (a % y) = 0 := nl_zero_iff.2 hz
  refine call_sub (G := tys) [⟨i, _, numC false m a, ⟨false, 0, []⟩⟩, ⟨j, _, numC false q y, ⟨false, 0, []⟩⟩] [⟨K, 5, numC true (nl a) (a / y)⟩] [.agg #[.bool true, .bool false, .slice (some ⟨0, 0, some 0⟩) (nl a) m], .agg #[.bool false, .bool false, .slice (some ⟨1, 0, some 0⟩) (nl y) q]] tysOK mixed Try.func57 (by rfl) (Try.call57) ⟨hi, hj, trivial⟩ ⟨⟨fun h => (by cases h), Nat.le_of_eq hin.1.symm, num_re hin⟩, ⟨fun h => (by cases h), Nat.le_of_eq hjn.1.symm, num_re hjn⟩, trivial⟩ (by simp [Apart]) ⟨⟨h0, rfl, by show 0 < nl a; omega, by simp⟩, trivial⟩ ⟨.agg ⟨.plain rfl, .plain rfl, .slice rfl, trivial⟩, .agg ⟨.plain rfl, .plain rfl, .slice rfl, trivial⟩, trivial⟩ ?_
  repeat' (refine N.go ?_; first | with_reducible refine N.obl (by decide) ?_ | with_reducible refine N.obl (flat_wi _ _ _) ?_ | with_reducible refine N.obl (flat_lim _ _) ?_ | with_reducible refine N.eq ?_ | with_reducible refine N.obl rfl ?_ | with_reducible refine N.obl ⟨by kernel_rfl, by kernel_rfl⟩ ?_ | with_reducible refine N.forkT ?_ | with_reducible refine N.forkF ?_ | refine N.call (cQuo a y m q _ _ 5 6 _ _ _ (by rfl) (isNum _ _ _) (by rfl) (isNum _ _ _) hl (by omega) hy hq hge (by rfl) (by rfl) (by decide)) ?_ | refine N.call (cMade32 (a / y) (nl a) _ _ true true (by rw [decide_eq_true hdp]; rfl) _ _ (by rfl) (isNum _ _ _) hdl (by omega) (nl_self _)) ?_ | refine N.obl (.tuple ⟨.agg ⟨.plain (by rfl), .plain rfl, .slice (by rfl), trivial⟩, .plain rfl, trivial⟩) ?_ | refine N.obl ⟨⟨by show 2 ≤ 5; decide, post_num (by rfl) rfl (isNum _ _ _)⟩, trivial⟩ ?_ | refine N.forkNo (by rw [hy]; rfl) ?_ | refine N.forkNo (by decide) ?_ | refine N.forkYes (by decide) ?_ | refine N.forkYes (by rw [decide_eq_true_eq]; omega) ?_ | refine N.forkNo (by rw [decide_eq_false_iff_not]; omega) ?_ | refine N.obl trivial ?_ | exact N.true | fail_if_success skip)
set_option maxRecDepth 100000 in
set_option maxHeartbeats 2000000 in
theorem cDivN2 (a y m q i j K : Nat) (o o2 : Chunk) (h : List (Option Chunk)) (hi : h[i]? = some (some o)) (hin : IsNum o m a) (hj : h[j]? = some (some o2)) (hjn : IsNum o2 q y) (hl : nl a ≤ m) (hm : m ≤ 18) (hy : nl y = 1) (hq : 1 ≤ q ∧ q ≤ 20) (hge : y ≤ a) (hz : a % y ≠ 0) (h0 : h[K]? = some none) :
    CallOK Try.prog 57 [.agg #[.bool true, .bool false, .slice (some ⟨i, 0, some 0⟩) (nl a) m], .agg #[.bool false, .bool false, .slice (some ⟨j, 0, some 0⟩) (nl y) q]] h (.tuple #[.agg #[.bool true, .bool false, .slice (some ⟨K, 0, some 0⟩) (nl (a / y + 1)) (nl (a / y) + 1)], .int .i64 0]) [(K, numC true (nl (a / y) + 1) (a / y + 1))] [i, j] := by
  have hy1 : y < 4294967296 := by have := nl_self y; rw [hy, bw_one] at this; exact this
  have hyp : 0 < y := by rcases Nat.eq_zero_or_pos y with e | e; (rw [e, nl_zero] at hy; omega); exact e
  have hna : nl a ≠ 0 := fun e => by have := nl_zero_iff.1 e; omega
  have hdl : nl (a / y) ≤ nl a := nl_le.2 (Nat.lt_of_le_of_lt (Nat.div_le_self _ _) (nl_self a))
  have hdp : 0 < a / y := Nat.div_pos hge hyp
  have hz0 : nl (a % y) ≠ 0 := fun e => hz (nl_zero_iff.1 e)
  have hn1 : nl 1 = 1 := nl_eq (by rw [bw_one]; decide) (by rw [bw_zero]; exact Nat.le_refl _)
  have hdq : nl (a / y) ≠ 0 := fun e => by have := nl_zero_iff.1 e; omega
  have hsl : nl (a / y + 1) ≤ nl (a / y) + 1 := nl_le.2 (by have := nl_self (a / y); have := bw_pos (nl (a / y)); rw [bw_succ]; omega)
  refine call_sub (G := tys) [⟨i, _, numC false m a, ⟨false, 0, []⟩⟩, ⟨j, _, numC false q y, ⟨false, 0, []⟩⟩] [⟨K, 8, numC true (nl (a / y) + 1) (a / y + 1)⟩] [.agg #[.bool true, .bool false, .slice (some ⟨0, 0, some 0⟩) (nl a) m], .agg #[.bool false, .bool false, .slice (some ⟨1, 0, some 0⟩) (nl y) q]] tysOK mixed Try.func57 (by rfl) (Try.call57) ⟨hi, hj, trivial⟩ ⟨⟨fun h => (by cases h), Nat.le_of_eq hin.1.symm, num_re hin⟩, ⟨fun h => (by cases h), Nat.le_of_eq hjn.1.symm, num_re hjn⟩, trivial⟩ (by simp [Apart]) ⟨⟨h0, rfl, by show 0 < nl (a / y) + 1; omega, by simp⟩, trivial⟩ ⟨.agg ⟨.plain rfl, .plain rfl, .slice rfl, trivial⟩, .agg ⟨.plain rfl, .plain rfl, .slice rfl, trivial⟩, trivial⟩ ?_
  repeat' (refine N.go ?_; first | with_reducible refine N.obl (by decide) ?_ | with_reducible refine N.obl (flat_wi _ _ _) ?_ | with_reducible refine N.obl (flat_lim _ _) ?_ | with_reducible refine N.eq ?_ | with_reducible refine N.obl rfl ?_ | with_reducible refine N.obl ⟨by kernel_rfl, by kernel_rfl⟩ ?_ | with_reducible refine N.forkT ?_ | with_reducible refine N.forkF ?_ | refine N.call (cQuo a y m q _ _ 5 6 _ _ _ (by rfl) (isNum _ _ _) (by rfl) (isNum _ _ _) hl (by omega) hy hq hge (by rfl) (by rfl) (by decide)) ?_ | refine N.call (cPlusOne (a / y) (nl a) _ _ 8 _ _ _ (by rfl) (isNum _ _ _) (by rfl) (isNum1 (by decide)) hdl (by omega) hdq (by rfl)) ?_ | refine N.call (cMade32 (a / y + 1) (nl (a / y) + 1) _ _ true true (by rw [decide_eq_true (Nat.succ_pos _)]; rfl) _ _ (by rfl) (isNum _ _ _) hsl (by omega) (nl_self _)) ?_ | refine N.obl (.tuple ⟨.agg ⟨.plain (by rfl), .plain rfl, .slice (by rfl), trivial⟩, .plain rfl, trivial⟩) ?_ | refine N.obl ⟨⟨by show 2 ≤ 8; decide, post_num (by rfl) rfl (isNum _ _ _)⟩, trivial⟩ ?_ | refine N.forkNo (by rw [hy]; rfl) ?_ | refine N.forkNo (by decide) ?_ | refine N.forkYes (by decide) ?_ | refine N.forkYes (by rw [decide_eq_true_eq]; omega) ?_ | refine N.forkNo (by rw [decide_eq_false_iff_not]; omega) ?_ | refine N.obl trivial ?_ | exact N.true | fail_if_success skip)
set_option maxRecDepth 100000 in
set_option maxHeartbeats 2000000 in
theorem cDivN3 (a y m q i j K : Nat) (o o2 : Chunk) (h : List (Option Chunk)) (hi : h[i]? = some (some o)) (hin : IsNum o m a) (hj : h[j]? = some (some o2)) (hjn : IsNum o2 q y) (hl : nl a ≤ m) (hm : m ≤ 18) (hy : nl y = 1) (hq : 1 ≤ q ∧ q ≤ 20) (hlt : a < y) (hp : 0 < a) (h0 : h[K]? = some none) :
    CallOK Try.prog 57 [.agg #[.bool true, .bool false, .slice (some ⟨i, 0, some 0⟩) (nl a) m], .agg #[.bool false, .bool false, .slice (some ⟨j, 0, some 0⟩) (nl y) q]] h (.tuple #[.agg #[.bool true, .bool false, .slice (some ⟨K, 0, some 0⟩) (nl 1) 2], .int .i64 0]) [(K, numC true 2 1)] [i, j] := by
  have hy1 : y < 4294967296 := by have := nl_self y; rw [hy, bw_one] at this; exact this
  have hyp : 0 < y := by rcases Nat.eq_zero_or_pos y with e | e; (rw [e, nl_zero] at hy; omega); exact e
  have hna : nl a ≠ 0 := fun e => by have := nl_zero_iff.1 e; omega
  refine call_sub (G := tys) [⟨i, _, numC false m a, ⟨false, 0, []⟩⟩, ⟨j, _, numC false q y, ⟨false, 0, []⟩⟩] [⟨K, 6, numC true 2 1⟩] [.agg #[.bool true, .bool false, .slice (some ⟨0, 0, some 0⟩) (nl a) m], .agg #[.bool false, .bool false, .slice (some ⟨1, 0, some 0⟩) (nl y) q]] tysOK mixed Try.func57 (by rfl) (Try.call57) ⟨hi, hj, trivial⟩ ⟨⟨fun h => (by cases h), Nat.le_of_eq hin.1.symm, num_re hin⟩, ⟨fun h => (by cases h), Nat.le_of_eq hjn.1.symm, num_re hjn⟩, trivial⟩ (by simp [Apart]) ⟨⟨h0, rfl, by show 0 < 2; decide, by simp⟩, trivial⟩ ⟨.agg ⟨.plain rfl, .plain rfl, .slice rfl, trivial⟩, .agg ⟨.plain rfl, .plain rfl, .slice rfl, trivial⟩, trivial⟩ ?_
  repeat' (refine N.go ?_; first | with_reducible refine N.obl (by decide) ?_ | with_reducible refine N.obl (flat_wi _ _ _) ?_ | with_reducible refine N.obl (flat_lim _ _) ?_ | with_reducible refine N.eq ?_ | with_reducible refine N.obl rfl ?_ | with_reducible refine N.obl ⟨by kernel_rfl, by kernel_rfl⟩ ?_ | with_reducible refine N.forkT ?_ | with_reducible refine N.forkF ?_ | refine N.call (cQuoLt a y m q _ _ _ _ _ (by rfl) (isNum _ _ _) (by rfl) (isNum _ _ _) hl (by omega) (by omega) (by omega) hlt) ?_ | refine N.call (cPlusNilOne _ 6 _ _ (by rfl) (isNum1 (by decide)) (by rfl)) ?_ | refine N.call (cMade32 1 2 1 _ true true (by decide) _ _ (by rfl) (isNum _ _ _) (by decide) (by decide) (by rw [bw_one]; decide)) ?_ | refine N.obl (.tuple ⟨.agg ⟨.plain (by rfl), .plain rfl, .slice (by rfl), trivial⟩, .plain rfl, trivial⟩) ?_ | refine N.obl ⟨⟨by show 2 ≤ 6; decide, post_num (by rfl) rfl (isNum _ _ _)⟩, trivial⟩ ?_ | refine N.forkNo (by rw [hy]; rfl) ?_ | refine N.forkNo (by decide) ?_ | refine N.forkYes (by decide) ?_ | refine N.forkYes (by rw [decide_eq_true_eq]; omega) ?_ | refine N.forkNo (by rw [decide_eq_false_iff_not]; omega) ?_ | refine N.obl trivial ?_ | exact N.true | fail_if_success skip)
theorem or_zero (x : Nat) (hx : x < 4294967296) : IntKind.u64.wrap ((BitVec.ofInt IntKind.u64.bits 0 ||| BitVec.ofInt IntKind.u64.bits ((x : Nat) : Int)).toNat : Nat) = ((x : Nat) : Int) := by
  have := or_add 0 x (by decide) hx
  rw [Nat.zero_mul, Nat.zero_add] at this
  exact this
theorem or_add' (r x : Nat) (hr : r < 4294967296) (hx : x < 4294967296) : IntKind.u64.wrap ((BitVec.ofInt IntKind.u64.bits ((x : Nat) : Int) ||| BitVec.ofInt IntKind.u64.bits (((r * 4294967296 : Nat) : Int))).toNat : Nat) = ((r * 4294967296 + x : Nat) : Int) := by
  rw [BitVec.or_comm]; exact or_add r x hr hx
theorem i64w0 (x v : Nat) (hx : x < 4294967296) (e : x = v) : IntKind.u64.wrap ((BitVec.ofInt IntKind.u64.bits 0 ||| BitVec.ofInt IntKind.u64.bits (IntKind.u64.wrap (IntKind.u64.wrap ((x : Nat) : Int) * 2 ^ sh (IntKind.u64.wrap (IntKind.i64.wrap (32 * 0))) IntKind.u64))).toNat : Nat) = (v : Int) := by
  subst e
  rw [show sh (IntKind.u64.wrap (IntKind.i64.wrap (32 * 0))) IntKind.u64 = 0 from by decide, Int.pow_zero, Int.mul_one, w64 (n := x) (by omega), w64 (n := x) (by omega)]
  exact or_zero x hx
theorem i64w1 (x z v : Nat) (hx : x < 4294967296) (hz : z < 4294967296) (e : z * 4294967296 + x = v) : IntKind.u64.wrap ((BitVec.ofInt IntKind.u64.bits (IntKind.u64.wrap ((BitVec.ofInt IntKind.u64.bits 0 ||| BitVec.ofInt IntKind.u64.bits (IntKind.u64.wrap (IntKind.u64.wrap ((x : Nat) : Int) * 2 ^ sh (IntKind.u64.wrap (IntKind.i64.wrap (32 * 0))) IntKind.u64))).toNat : Nat)) ||| BitVec.ofInt IntKind.u64.bits (IntKind.u64.wrap (IntKind.u64.wrap ((z : Nat) : Int) * 2 ^ sh (IntKind.u64.wrap (IntKind.i64.wrap (32 * IntKind.i64.wrap (0 + 1)))) IntKind.u64))).toNat : Nat) = (v : Int) := by
  subst e
  rw [i64w0 x x hx rfl, show sh (IntKind.u64.wrap (IntKind.i64.wrap (32 * IntKind.i64.wrap (0 + 1)))) IntKind.u64 = 32 from by decide, w64 (n := z) (by omega), show ((z : Int) * 2 ^ 32) = ((z * 4294967296 : Nat) : Int) from by omega, w64 (n := z * 4294967296) (by omega)]
  exact or_add' z x hz hx
set_option maxRecDepth 100000 in
set_option maxHeartbeats 2000000 in
theorem cRI64 (v m i : Nat) (o : Chunk) (h : List (Option Chunk)) (hi : h[i]? = some (some o)) (hin : IsNum o m v) (hl : nl v ≤ m) (hm : m ≤ 20) (hv : v < 9223372036854775808) :
    CallOK Try.prog 60 [.agg #[.bool false, .bool false, .slice (some ⟨i, 0, some 0⟩) (nl v) m]] h (.tuple #[.int .i64 (v : Int), .bool true]) [] [i] := by
  have h2 : nl v ≤ 2 := (two_words (by omega)).2
  refine call_sub (G := tys) [⟨i, _, numC false m v, ⟨false, 0, []⟩⟩] [] [.agg #[.bool false, .bool false, .slice (some ⟨0, 0, some 0⟩) (nl v) m]] tysOK mixed Try.func60 (by rfl) (Try.call60) ⟨hi, trivial⟩ ⟨⟨fun h => (by cases h), Nat.le_of_eq hin.1.symm, num_re hin⟩, trivial⟩ (by simp [Apart]) trivial ⟨.agg ⟨.plain rfl, .plain rfl, .slice rfl, trivial⟩, trivial⟩ ?_
  rcases (show nl v = 0 ∨ nl v = 1 ∨ nl v = 2 by omega) with e | e | e
  · obtain rfl := nl_zero_iff.1 e
    repeat' (refine N.go ?_; first | with_reducible refine N.obl (by decide) ?_ | with_reducible refine N.obl (flat_wi _ _ _) ?_ | with_reducible refine N.obl (flat_lim _ _) ?_ | with_reducible refine N.eq ?_ | with_reducible refine N.obl rfl ?_ | with_reducible refine N.obl ⟨by kernel_rfl, by kernel_rfl⟩ ?_ | with_reducible refine N.forkT ?_ | with_reducible refine N.forkF ?_ | refine N.roll 1 ?_ | refine N.forkNo (by rw [nl_zero]; decide) ?_ | refine N.obl (re_eqn (by decide) rfl) ?_ | refine N.obl (.plain (by rfl)) ?_ | refine N.idx 0 1 rfl (by omega) ?_ | refine N.load _ (reads_num (p := 0) (by omega) (by omega)) ?_ | refine N.idx 1 1 rfl (by omega) ?_ | refine N.load _ (reads_num (p := 1) (by omega) (by omega)) ?_ | refine N.forkNo (by decide) ?_ | refine N.forkYes (by decide) ?_ | refine N.forkYes (by rw [decide_eq_true_eq]; omega) ?_ | refine N.forkNo (by rw [decide_eq_false_iff_not]; omega) ?_ | refine N.obl trivial ?_ | exact N.true | fail_if_success skip)
  · have hv1 : v < 4294967296 := by have := nl_self v; rw [e, bw_one] at this; exact this
    have hy0 := (lm01 hv1).1
    rw [e] at hl ⊢
    have ev := i64w0 (lm v 0) v (lm_lt v 0) hy0
    repeat' (refine N.go ?_; first | with_reducible refine N.obl (by decide) ?_ | with_reducible refine N.obl (flat_wi _ _ _) ?_ | with_reducible refine N.obl (flat_lim _ _) ?_ | with_reducible refine N.eq ?_ | with_reducible refine N.obl rfl ?_ | with_reducible refine N.obl ⟨by kernel_rfl, by kernel_rfl⟩ ?_ | with_reducible refine N.forkT ?_ | with_reducible refine N.forkF ?_ | refine N.roll 2 ?_ | refine N.forkNo (by rw [decide_eq_false_iff_not, ev]; omega) ?_ | refine N.obl (re_eqn (by rw [ev, i64n _ (by omega) (by omega)]) rfl) ?_ | refine N.idx 0 1 rfl (by omega) ?_ | refine N.load _ (reads_num (p := 0) (by omega) (by omega)) ?_ | refine N.idx 1 1 rfl (by omega) ?_ | refine N.load _ (reads_num (p := 1) (by omega) (by omega)) ?_ | refine N.forkNo (by decide) ?_ | refine N.forkYes (by decide) ?_ | refine N.forkYes (by rw [decide_eq_true_eq]; omega) ?_ | refine N.forkNo (by rw [decide_eq_false_iff_not]; omega) ?_ | refine N.obl trivial ?_ | exact N.true | fail_if_success skip)
  · have h3 : v < bw 2 := by rw [← e]; exact nl_self v
    rw [e] at hl ⊢
    have ev := i64w1 (lm v 0) (lm v 1) v (lm_lt v 0) (lm_lt v 1) (by
      have h4 : v / bw 0 = v / bw 1 * 4294967296 + lm v 0 := up_word v 0
      have h5 : v / bw 1 = v / bw 2 * 4294967296 + lm v 1 := up_word v 1
      rw [Nat.div_eq_of_lt h3] at h5
      rw [bw_zero, Nat.div_one] at h4
      omega)
    repeat' (refine N.go ?_; first | with_reducible refine N.obl (by decide) ?_ | with_reducible refine N.obl (flat_wi _ _ _) ?_ | with_reducible refine N.obl (flat_lim _ _) ?_ | with_reducible refine N.eq ?_ | with_reducible refine N.obl rfl ?_ | with_reducible refine N.obl ⟨by kernel_rfl, by kernel_rfl⟩ ?_ | with_reducible refine N.forkT ?_ | with_reducible refine N.forkF ?_ | refine N.roll 3 ?_ | refine N.forkNo (by rw [decide_eq_false_iff_not, ev]; omega) ?_ | refine N.obl (re_eqn (by rw [ev, i64n _ (by omega) (by omega)]) rfl) ?_ | refine N.idx 0 1 rfl (by omega) ?_ | refine N.load _ (reads_num (p := 0) (by omega) (by omega)) ?_ | refine N.idx 1 1 rfl (by omega) ?_ | refine N.load _ (reads_num (p := 1) (by omega) (by omega)) ?_ | refine N.forkNo (by decide) ?_ | refine N.forkYes (by decide) ?_ | refine N.forkYes (by rw [decide_eq_true_eq]; omega) ?_ | refine N.forkNo (by rw [decide_eq_false_iff_not]; omega) ?_ | refine N.obl trivial ?_ | exact N.true | fail_if_success skip)
end Go.Proofs.Ytioohgocbpdkeaa
