/-
  The walks of the document's MulDiv, MulDivUp.
-/
import Derived.Test.YtioohgocbpdkeaaRd
set_option linter.unusedVariables false
set_option linter.unusedSimpArgs false
namespace Go.Proofs.Ytioohgocbpdkeaa
open Go Go.RowKit Sx

set_option maxRecDepth 100000 in
theorem i64nil_x (w : World) : Calls Try.prog 60 #[.agg #[.bool false, .bool false, .slice none 0 0]] w fun e w' => e = .returned (.tuple #[.int .i64 0, .bool true]) ∧ Below w.heap.size w w' := by
  refine calls_pure (G := tys) w tysOK mixed Try.func60 (by rfl) (by rfl) (by rfl) ?_
  repeat' (refine N.go ?_; first | with_reducible refine N.obl (by decide) ?_ | with_reducible refine N.obl (flat_wi _ _ _) ?_ | with_reducible refine N.obl (flat_lim _ _) ?_ | with_reducible refine N.eq ?_ | with_reducible refine N.obl rfl ?_ | with_reducible refine N.obl ⟨by kernel_rfl, by kernel_rfl⟩ ?_ | with_reducible refine N.forkT ?_ | with_reducible refine N.forkF ?_ | refine N.roll 1 ?_ | refine N.forkNo (by decide) ?_ | refine N.forkYes (by decide) ?_ | fail_if_success skip)
  all_goals rfl
theorem nl_word {b : Nat} (h : 1 ≤ b ∧ b < 4294967296) : nl b = 1 := nl_eq (by rw [bw_one]; exact h.2) (by rw [bw_zero]; exact h.1)
set_option maxRecDepth 100000 in
set_option maxHeartbeats 2000000 in
theorem rmuldiv_x (a b c : Nat) (ha : a < 140737488355329) (hb : 1 ≤ b ∧ b ≤ 2000000) (hc : 900000 ≤ c ∧ c ≤ 2000000) (w : World) :
    Calls Try.prog 44 #[.int .i64 (a : Int), .int .i64 (b : Int), .int .i64 (c : Int)] w fun e w' => e = .returned (.tuple #[.int .i64 (((a * b / c) : Nat) : Int), .int .i64 0]) ∧ Below w.heap.size w w' := by
  have hab : a * b ≤ 140737488355328 * 2000000 := Nat.mul_le_mul (by omega) (by omega)
  have hq : a * b / c ≤ a * b / 900000 := Nat.div_le_div_left hc.1 (by decide)
  have hq2 : a * b / c < 9223372036854775807 := by omega
  have ha2 : nl a ≤ 2 := (two_words (by omega)).2
  have hb1 : nl b = 1 := nl_word ⟨hb.1, by omega⟩
  have hc1 : nl c = 1 := nl_word ⟨by omega, by omega⟩
  have hm := nl_le.2 (mul_nl (a := a) (y := b) (by omega))
  refine calls_pure (G := tys) w tysOK mixed Try.func44 (by rfl) (by rfl) (by rfl) ?_
  rcases Nat.lt_or_ge (a * b) c with hlt | hge
  · have hz : a * b / c = 0 := Nat.div_eq_of_lt hlt
    rw [hz]
    repeat' (refine N.go ?_; first | with_reducible refine N.obl (by decide) ?_ | with_reducible refine N.obl (flat_wi _ _ _) ?_ | with_reducible refine N.obl (flat_lim _ _) ?_ | with_reducible refine N.eq ?_ | with_reducible refine N.obl rfl ?_ | with_reducible refine N.obl ⟨by kernel_rfl, by kernel_rfl⟩ ?_ | with_reducible refine N.forkT ?_ | with_reducible refine N.forkF ?_ | refine N.call (cROf a 0 _ (by rfl) (by omega)) ?_ | refine N.call (cROf b 4 _ (by rfl) (by omega)) ?_ | refine N.call (cROf c 12 _ (by rfl) (by omega)) ?_ | refine N.call (cRMul a b 2 2 _ _ 8 _ _ _ (by rfl) (isNum _ _ _) (by rfl) (isNum _ _ _) ha2 (by omega) hb1 (by omega) (by rfl)) ?_ | refine N.forkNo (by rw [beq_eq_false_iff_ne]; omega) ?_ | refine N.call (cDivP0 (a * b) c (nl a + 1) 2 _ _ _ _ _ (by rfl) (isNum _ _ _) (by rfl) (isNum _ _ _) hm (by omega) hc1 (by omega) hlt) ?_ | refine N.call (call_pure (by rfl) (by rfl) (Try.call60 _) (fun w => i64nil_x w)) ?_ | refine N.forkNo (by decide) ?_ | refine N.forkYes (by decide) ?_ | fail_if_success skip)
    all_goals rfl
  · repeat' (refine N.go ?_; first | with_reducible refine N.obl (by decide) ?_ | with_reducible refine N.obl (flat_wi _ _ _) ?_ | with_reducible refine N.obl (flat_lim _ _) ?_ | with_reducible refine N.eq ?_ | with_reducible refine N.obl rfl ?_ | with_reducible refine N.obl ⟨by kernel_rfl, by kernel_rfl⟩ ?_ | with_reducible refine N.forkT ?_ | with_reducible refine N.forkF ?_ | refine N.call (cROf a 0 _ (by rfl) (by omega)) ?_ | refine N.call (cROf b 4 _ (by rfl) (by omega)) ?_ | refine N.call (cROf c 12 _ (by rfl) (by omega)) ?_ | refine N.call (cRMul a b 2 2 _ _ 8 _ _ _ (by rfl) (isNum _ _ _) (by rfl) (isNum _ _ _) ha2 (by omega) hb1 (by omega) (by rfl)) ?_ | refine N.forkNo (by rw [beq_eq_false_iff_ne]; omega) ?_ | refine N.call (cDivP (a * b) c (nl a + 1) 2 _ _ 16 _ _ _ (by rfl) (isNum _ _ _) (by rfl) (isNum _ _ _) hm (by omega) hc1 (by omega) hge (by rfl)) ?_ | refine N.call (cRI64 (a * b / c) (nl (a * b)) _ _ _ (by rfl) (isNum _ _ _) (nl_le.2 (Nat.lt_of_le_of_lt (Nat.div_le_self _ _) (nl_self _))) (by omega) (by omega)) ?_ | refine N.forkNo (by decide) ?_ | refine N.forkYes (by decide) ?_ | fail_if_success skip)
    all_goals rfl
set_option maxRecDepth 100000 in
set_option maxHeartbeats 2000000 in
theorem rmuldivup_x (a b c : Nat) (ha : 1 ≤ a ∧ a < 140737488355329) (hb : 1 ≤ b ∧ b ≤ 2000000) (hc : 900000 ≤ c ∧ c ≤ 2000000) (w : World) :
    Calls Try.prog 45 #[.int .i64 (a : Int), .int .i64 (b : Int), .int .i64 (c : Int)] w fun e w' => e = .returned (.tuple #[.int .i64 (((if a * b % c = 0 then a * b / c else a * b / c + 1) : Nat) : Int), .int .i64 0]) ∧ Below w.heap.size w w' := by
  have hab : a * b ≤ 140737488355328 * 2000000 := Nat.mul_le_mul (by omega) (by omega)
  have hp : 0 < a * b := Nat.mul_pos (by omega) (by omega)
  have hq : a * b / c ≤ a * b / 900000 := Nat.div_le_div_left hc.1 (by decide)
  have hq2 : a * b / c < 9223372036854775807 := by omega
  have ha2 : nl a ≤ 2 := (two_words (by omega)).2
  have hb1 : nl b = 1 := nl_word ⟨hb.1, by omega⟩
  have hc1 : nl c = 1 := nl_word ⟨by omega, by omega⟩
  have hm := nl_le.2 (mul_nl (a := a) (y := b) (by omega))
  refine calls_pure (G := tys) w tysOK mixed Try.func45 (by rfl) (by rfl) (by rfl) ?_
  rcases Nat.lt_or_ge (a * b) c with hlt | hge
  · have hz : a * b / c = 0 := Nat.div_eq_of_lt hlt
    have hn : a * b % c ≠ 0 := by rw [Nat.mod_eq_of_lt hlt]; omega
    rw [if_neg hn, hz]
    repeat' (refine N.go ?_; first | with_reducible refine N.obl (by decide) ?_ | with_reducible refine N.obl (flat_wi _ _ _) ?_ | with_reducible refine N.obl (flat_lim _ _) ?_ | with_reducible refine N.eq ?_ | with_reducible refine N.obl rfl ?_ | with_reducible refine N.obl ⟨by kernel_rfl, by kernel_rfl⟩ ?_ | with_reducible refine N.forkT ?_ | with_reducible refine N.forkF ?_ | refine N.call (cROf a 0 _ (by rfl) (by omega)) ?_ | refine N.call (cROf b 4 _ (by rfl) (by omega)) ?_ | refine N.call (cROf c 16 _ (by rfl) (by omega)) ?_ | refine N.call (cRMul a b 2 2 _ _ 8 _ _ _ (by rfl) (isNum _ _ _) (by rfl) (isNum _ _ _) ha2 (by omega) hb1 (by omega) (by rfl)) ?_ | refine N.forkNo (by rw [beq_eq_false_iff_ne]; omega) ?_ | refine N.call (cRNeg (a * b) (nl a + 1) _ false true (by rw [decide_eq_true hp]; rfl) _ _ (by rfl) (isNum _ _ _) hm (by omega)) ?_ | refine N.call (cDivN3 (a * b) c (nl a + 1) 2 _ _ 20 _ _ _ (by rfl) (isNum _ _ _) (by rfl) (isNum _ _ _) hm (by omega) hc1 (by omega) hlt hp (by rfl)) ?_ | refine N.call (cRNeg 1 2 _ true false rfl _ _ (by rfl) (isNum _ _ _) (by rw [nl_one]; decide) (by omega)) ?_ | refine N.call (cRI64 1 2 _ _ _ (by rfl) (isNum _ _ _) (by rw [nl_one]; decide) (by omega) (by omega)) ?_ | refine N.forkNo (by decide) ?_ | refine N.forkYes (by decide) ?_ | fail_if_success skip)
    all_goals rfl
  · by_cases hz : a * b % c = 0
    · rw [if_pos hz]
      repeat' (refine N.go ?_; first | with_reducible refine N.obl (by decide) ?_ | with_reducible refine N.obl (flat_wi _ _ _) ?_ | with_reducible refine N.obl (flat_lim _ _) ?_ | with_reducible refine N.eq ?_ | with_reducible refine N.obl rfl ?_ | with_reducible refine N.obl ⟨by kernel_rfl, by kernel_rfl⟩ ?_ | with_reducible refine N.forkT ?_ | with_reducible refine N.forkF ?_ | refine N.call (cROf a 0 _ (by rfl) (by omega)) ?_ | refine N.call (cROf b 4 _ (by rfl) (by omega)) ?_ | refine N.call (cROf c 16 _ (by rfl) (by omega)) ?_ | refine N.call (cRMul a b 2 2 _ _ 8 _ _ _ (by rfl) (isNum _ _ _) (by rfl) (isNum _ _ _) ha2 (by omega) hb1 (by omega) (by rfl)) ?_ | refine N.forkNo (by rw [beq_eq_false_iff_ne]; omega) ?_ | refine N.call (cRNeg (a * b) (nl a + 1) _ false true (by rw [decide_eq_true hp]; rfl) _ _ (by rfl) (isNum _ _ _) hm (by omega)) ?_ | refine N.call (cDivN1 (a * b) c (nl a + 1) 2 _ _ 20 _ _ _ (by rfl) (isNum _ _ _) (by rfl) (isNum _ _ _) hm (by omega) hc1 (by omega) hge hz (by rfl)) ?_ | refine N.call (cRNeg (a * b / c) (nl (a * b)) _ true false rfl _ _ (by rfl) (isNum _ _ _) (nl_le.2 (Nat.lt_of_le_of_lt (Nat.div_le_self _ _) (nl_self _))) (by omega)) ?_ | refine N.call (cRI64 (a * b / c) (nl (a * b)) _ _ _ (by rfl) (isNum _ _ _) (nl_le.2 (Nat.lt_of_le_of_lt (Nat.div_le_self _ _) (nl_self _))) (by omega) (by omega)) ?_ | refine N.forkNo (by decide) ?_ | refine N.forkYes (by decide) ?_ | fail_if_success skip)
      all_goals rfl
    · rw [if_neg hz]
      have hsl : nl (a * b / c + 1) ≤ nl (a * b / c) + 1 := nl_le.2 (by have := nl_self (a * b / c); have := bw_pos (nl (a * b / c)); rw [bw_succ]; omega)
      have hdl : nl (a * b / c) ≤ nl (a * b) := nl_le.2 (Nat.lt_of_le_of_lt (Nat.div_le_self _ _) (nl_self _))
      repeat' (refine N.go ?_; first | with_reducible refine N.obl (by decide) ?_ | with_reducible refine N.obl (flat_wi _ _ _) ?_ | with_reducible refine N.obl (flat_lim _ _) ?_ | with_reducible refine N.eq ?_ | with_reducible refine N.obl rfl ?_ | with_reducible refine N.obl ⟨by kernel_rfl, by kernel_rfl⟩ ?_ | with_reducible refine N.forkT ?_ | with_reducible refine N.forkF ?_ | refine N.call (cROf a 0 _ (by rfl) (by omega)) ?_ | refine N.call (cROf b 4 _ (by rfl) (by omega)) ?_ | refine N.call (cROf c 16 _ (by rfl) (by omega)) ?_ | refine N.call (cRMul a b 2 2 _ _ 8 _ _ _ (by rfl) (isNum _ _ _) (by rfl) (isNum _ _ _) ha2 (by omega) hb1 (by omega) (by rfl)) ?_ | refine N.forkNo (by rw [beq_eq_false_iff_ne]; omega) ?_ | refine N.call (cRNeg (a * b) (nl a + 1) _ false true (by rw [decide_eq_true hp]; rfl) _ _ (by rfl) (isNum _ _ _) hm (by omega)) ?_ | refine N.call (cDivN2 (a * b) c (nl a + 1) 2 _ _ 20 _ _ _ (by rfl) (isNum _ _ _) (by rfl) (isNum _ _ _) hm (by omega) hc1 (by omega) hge hz (by rfl)) ?_ | refine N.call (cRNeg (a * b / c + 1) (nl (a * b / c) + 1) _ true false rfl _ _ (by rfl) (isNum _ _ _) hsl (by omega)) ?_ | refine N.call (cRI64 (a * b / c + 1) (nl (a * b / c) + 1) _ _ _ (by rfl) (isNum _ _ _) hsl (by omega) (by omega)) ?_ | refine N.forkNo (by decide) ?_ | refine N.forkYes (by decide) ?_ | fail_if_success skip)
      all_goals rfl
end Go.Proofs.Ytioohgocbpdkeaa
