/-
  The walks of the document's numbers: plus, quo (by one word).
-/
import Derived.Test.YtkjeebabcdnjkaaRb
set_option linter.unusedVariables false
set_option linter.unusedSimpArgs false
namespace Go.Proofs.Ytkjeebabcdnjkaa
open Go Go.RowKit Sx

theorem lm_up (v i j : Nat) (h : i ≤ j) : lm (v % bw i) j = 0 := lm_big (Nat.lt_of_lt_of_le (Nat.mod_lt _ (bw_pos i)) (bw_mono h))
theorem writes_next {m v i q : Nat} {x : Int} (e : q = i) (h : i < m) (hx : x = ((lm v i : Nat) : Int)) : Writes (numC true m (v % bw i)) q 1 (.int .u32 x) (numC true m (v % bw (i + 1))) := by
  subst e hx
  refine ⟨rfl, by show q + 1 ≤ m; omega, rfl, fun j hj => ?_⟩
  have hj : j < m := hj
  rw [seg_cell hj, seg_cell hj]
  rcases Nat.lt_trichotomy j q with h1 | h1 | h1
  · rw [if_neg (by omega), lm_mod h1, lm_mod (by omega)]
  · subst h1; rw [if_pos (by omega), Nat.sub_self, lm_mod (by omega)]; rfl
  · rw [if_neg (by omega), lm_up _ _ _ (by omega), lm_up _ _ _ (by omega)]
theorem lm_down (v i j : Nat) : lm (v / bw i * bw i) j = if i ≤ j then lm v j else 0 := by
  by_cases h : i ≤ j
  · rw [if_pos h]
    unfold lm
    obtain ⟨d, rfl⟩ : ∃ d, j = i + d := ⟨j - i, by omega⟩
    rw [bw_add, ← Nat.div_div_eq_div_mul, Nat.mul_div_cancel _ (bw_pos i), Nat.div_div_eq_div_mul]
  · rw [if_neg h]
    unfold lm
    obtain ⟨d, rfl⟩ : ∃ d, i = j + 1 + d := ⟨i - (j + 1), by omega⟩
    rw [bw_add, bw_succ]
    generalize v / (bw j * 4294967296 * bw d) = q
    rw [show q * (bw j * 4294967296 * bw d) = q * bw d * 4294967296 * bw j from by rw [Nat.mul_assoc (bw j), Nat.mul_comm (bw j), ← Nat.mul_assoc, Nat.mul_comm 4294967296, ← Nat.mul_assoc], Nat.mul_div_cancel _ (bw_pos j)]
    exact Nat.mul_mod_left _ _
theorem writes_down {m v i q : Nat} {x : Int} (e : q = i) (h : i < m) (hx : x = ((lm v i : Nat) : Int)) : Writes (numC true m (v / bw (i + 1) * bw (i + 1))) q 1 (.int .u32 x) (numC true m (v / bw i * bw i)) := by
  subst e hx
  refine ⟨rfl, by show q + 1 ≤ m; omega, rfl, fun j hj => ?_⟩
  have hj : j < m := hj
  rw [seg_cell hj, seg_cell hj, lm_down, lm_down]
  rcases Nat.lt_trichotomy j q with h1 | h1 | h1
  · rw [if_neg (by omega), if_neg (by omega), if_neg (by omega)]
  · subst h1; rw [if_pos (by omega), if_pos (by omega), Nat.sub_self]; rfl
  · rw [if_pos (by omega), if_neg (by omega), if_pos (by omega)]
set_option maxRecDepth 100000 in
set_option maxHeartbeats 2000000 in
theorem cPlus (a b m q i j K : Nat) (o o2 : Chunk) (h : List (Option Chunk)) (hi : h[i]? = some (some o)) (hin : IsNum o m a) (hj : h[j]? = some (some o2)) (hjn : IsNum o2 q b) (hl : nl a ≤ m) (hm : m ≤ 20) (hba : nl b ≤ nl a) (hq : nl b ≤ q ∧ q ≤ 20) (h0 : h[K]? = some none) :
    CallOK Try.prog 41 [.slice (some ⟨i, 0, some 0⟩) (nl a) m, .slice (some ⟨j, 0, some 0⟩) (nl b) q] h (.slice (some ⟨K, 0, some 0⟩) (nl (a + b)) (nl a + 1)) [(K, numC true (nl a + 1) (a + b))] [i, j] := by
  have hs : a + b < bw (nl a + 1) := by
    rw [bw_succ]
    have h1 := nl_self a
    have h2 := nl_le.1 hba
    omega
  refine call_sub (G := tys) [⟨i, _, numC false m a, ⟨false, 0, []⟩⟩, ⟨j, _, numC false q b, ⟨false, 0, []⟩⟩] [⟨K, 6, numC true (nl a + 1) (a + b)⟩] [.slice (some ⟨0, 0, some 0⟩) (nl a) m, .slice (some ⟨1, 0, some 0⟩) (nl b) q] tysOK mixed Try.func41 (by rfl) (Try.call41) ⟨hi, hj, trivial⟩ ⟨⟨fun h => (by cases h), Nat.le_of_eq hin.1.symm, num_re hin⟩, ⟨fun h => (by cases h), Nat.le_of_eq hjn.1.symm, num_re hjn⟩, trivial⟩ (by simp [Apart]) ⟨⟨h0, rfl, by show 0 < nl a + 1; omega, by simp⟩, trivial⟩ ⟨.slice rfl, .slice rfl, trivial⟩ ?_
  repeat' (refine N.go ?_; first | with_reducible refine N.obl (by decide) ?_ | with_reducible refine N.obl (flat_wi _ _ _) ?_ | with_reducible refine N.obl (flat_lim _ _) ?_ | with_reducible refine N.eq ?_ | with_reducible refine N.obl rfl ?_ | with_reducible refine N.obl ⟨by kernel_rfl, by kernel_rfl⟩ ?_ | with_reducible refine N.forkT ?_ | with_reducible refine N.forkF ?_ | refine MakeN.mk1 (nl a + 1) (nl a + 1) (by rw [i64n _ (by omega) (by omega)]; rfl) (by rw [i64n _ (by omega) (by omega)]; rfl) (by show 4 * (nl a + 1) ≤ _; omega) (by omega) (Nat.mul_one _).symm ?_ | refine N.forkNo (by decide) ?_ | refine N.forkYes (by decide) ?_ | refine N.forkYes (by rw [decide_eq_true_eq]; omega) ?_ | refine N.forkNo (by rw [decide_eq_false_iff_not]; omega) ?_ | refine N.obl trivial ?_ | exact N.true | fail_if_success skip)
  refine N.go ?_
  refine N.loop (α := Nat) (fun i => i ≤ nl a) (fun i => nl a - i) (fun i => [(21, .int .i64 (i : Int)), (6, .int .u64 (((a % bw i + b % bw i) / bw i : Nat) : Int))]) (fun i => [(6, numC true (nl a + 1) ((a + b) % bw i))]) 0 (Nat.zero_le _) ?_ ?_
  · repeat (refine N.go ?_; first | exact N.true | with_reducible refine N.obl rfl ?_ | with_reducible refine N.obl (ChunkLe.refl _) ?_ | refine N.obl (int_i64 (by rw [IntWalk.i64_in _ (by omega)]; rfl)) ?_ | refine N.obl (by rw [bw_zero, Nat.mod_one]; exact zeros_num) ?_ | refine N.obl (inteq (by rw [bw_zero, Nat.mod_one, Nat.mod_one]; rfl)) ?_ |  fail_if_success skip)
  · intro i hi'
    have hi' : i ≤ nl a := hi'
    rcases Nat.lt_or_ge i (nl a) with hlt | hge
    · obtain ⟨m1, m2, m3⟩ := add_word a b i
      generalize hC : (a % bw i + b % bw i) / bw i = C at *
      have hx := lm_lt a i
      have hy := lm_lt b i
      have ev : IntKind.u64.wrap (IntKind.u64.wrap ((C : Int) + IntKind.u64.wrap ((lm a i : Nat) : Int)) + IntKind.u64.wrap ((lm b i : Nat) : Int)) = ((C + lm a i + lm b i : Nat) : Int) := by
        rw [w64 (n := lm a i) (by omega), w64 (n := lm b i) (by omega), ← Int.natCast_add, w64 (n := C + lm a i) (by omega), ← Int.natCast_add, w64 (by omega)]
      have ev0 : IntKind.u64.wrap ((C : Int) + IntKind.u64.wrap ((lm a i : Nat) : Int)) = ((C + lm a i : Nat) : Int) := by
        rw [w64 (n := lm a i) (by omega), ← Int.natCast_add, w64 (n := C + lm a i) (by omega)]
      rcases Nat.lt_or_ge i (nl b) with hib | hib
      · repeat' (refine N.go ?_; first | with_reducible refine N.obl (by decide) ?_ | with_reducible refine N.obl (flat_wi _ _ _) ?_ | with_reducible refine N.obl (flat_lim _ _) ?_ | with_reducible refine N.eq ?_ | with_reducible refine N.obl rfl ?_ | with_reducible refine N.obl ⟨by kernel_rfl, by kernel_rfl⟩ ?_ | with_reducible refine N.forkT ?_ | with_reducible refine N.forkF ?_ | refine N.store _ (writes_next rfl (by omega) (by rw [ev, w32, m1])) ?_ | refine N.idx i 1 rfl (by omega) ?_ | refine N.load _ (reads_num (p := i) (by omega) (by omega)) ?_ | refine N.forkNo (by decide) ?_ | refine N.forkYes (by decide) ?_ | refine N.forkYes (by rw [decide_eq_true_eq]; omega) ?_ | refine N.forkNo (by rw [decide_eq_false_iff_not]; omega) ?_ | refine N.obl trivial ?_ | exact N.true | fail_if_success skip)
        refine N.go ?_
        refine N.next (i + 1) ⟨by show i + 1 ≤ nl a; omega, by omega⟩ ?_
        repeat (refine N.go ?_; first | exact N.true | with_reducible refine N.obl rfl ?_ | with_reducible refine N.obl (ChunkLe.refl _) ?_ | refine N.obl (int_i64 (by rw [IntWalk.i64_in _ (by omega)]; rfl)) ?_ | refine N.obl (inteq (by rw [i64n _ (by omega) (by omega)]; omega)) ?_ | refine N.obl (inteq (by rw [ev, fd32, m2])) ?_ |  fail_if_success skip)
      · have hz : lm b i = 0 := lm_big (Nat.lt_of_lt_of_le (nl_self b) (bw_mono hib))
        repeat' (refine N.go ?_; first | with_reducible refine N.obl (by decide) ?_ | with_reducible refine N.obl (flat_wi _ _ _) ?_ | with_reducible refine N.obl (flat_lim _ _) ?_ | with_reducible refine N.eq ?_ | with_reducible refine N.obl rfl ?_ | with_reducible refine N.obl ⟨by kernel_rfl, by kernel_rfl⟩ ?_ | with_reducible refine N.forkT ?_ | with_reducible refine N.forkF ?_ | refine N.store _ (writes_next rfl (by omega) (by rw [ev0, w32, m1, hz]; rfl)) ?_ | refine N.idx i 1 rfl (by omega) ?_ | refine N.load _ (reads_num (p := i) (by omega) (by omega)) ?_ | refine N.forkNo (by decide) ?_ | refine N.forkYes (by decide) ?_ | refine N.forkYes (by rw [decide_eq_true_eq]; omega) ?_ | refine N.forkNo (by rw [decide_eq_false_iff_not]; omega) ?_ | refine N.obl trivial ?_ | exact N.true | fail_if_success skip)
        refine N.go ?_
        refine N.next (i + 1) ⟨by show i + 1 ≤ nl a; omega, by omega⟩ ?_
        repeat (refine N.go ?_; first | exact N.true | with_reducible refine N.obl rfl ?_ | with_reducible refine N.obl (ChunkLe.refl _) ?_ | refine N.obl (int_i64 (by rw [IntWalk.i64_in _ (by omega)]; rfl)) ?_ | refine N.obl (inteq (by rw [i64n _ (by omega) (by omega)]; omega)) ?_ | refine N.obl (inteq (by rw [ev0, fd32, m2, hz]; rfl)) ?_ |  fail_if_success skip)
    · obtain rfl : i = nl a := by omega
      have ha := nl_self a
      have hb := nl_le.1 hba
      have hc : ((a % bw (nl a) + b % bw (nl a)) / bw (nl a)) = lm (a + b) (nl a) := by
        rw [Nat.mod_eq_of_lt ha, Nat.mod_eq_of_lt hb]
        unfold lm
        rw [Nat.mod_eq_of_lt ((Nat.div_lt_iff_lt_mul (bw_pos _)).2 (by rw [Nat.mul_comm, ← bw_succ]; exact hs))]
      have hlt := lm_lt (a + b) (nl a)
      have he : (a + b) % bw (nl a + 1) = a + b := Nat.mod_eq_of_lt hs
      repeat' (refine N.go ?_; first | with_reducible refine N.obl (by decide) ?_ | with_reducible refine N.obl (flat_wi _ _ _) ?_ | with_reducible refine N.obl (flat_lim _ _) ?_ | with_reducible refine N.eq ?_ | with_reducible refine N.obl rfl ?_ | with_reducible refine N.obl ⟨by kernel_rfl, by kernel_rfl⟩ ?_ | with_reducible refine N.forkT ?_ | with_reducible refine N.forkF ?_ | refine N.idx (nl a) 1 rfl (by omega) ?_ | refine N.store _ (writes_next rfl (by omega) (by rw [w32, hc]; omega)) ?_ | refine N.call (cTrim (a + b) (nl a + 1) (nl a + 1) _ _ _ (by rfl) (by rw [he]; exact isNum _ _ _) (by omega) (by omega) hs) ?_ | refine N.obl (re_sl (by rfl) rfl) ?_ | refine N.obl ⟨⟨by show 2 ≤ 6; decide, post_num (by rfl) rfl (by rw [he]; exact isNum _ _ _)⟩, trivial⟩ ?_ | refine N.forkNo (by decide) ?_ | refine N.forkYes (by decide) ?_ | refine N.forkYes (by rw [decide_eq_true_eq]; omega) ?_ | refine N.forkNo (by rw [decide_eq_false_iff_not]; omega) ?_ | refine N.obl trivial ?_ | exact N.true | fail_if_success skip)
theorem or_add (r x : Nat) (hr : r < 4294967296) (hx : x < 4294967296) : IntKind.u64.wrap ((BitVec.ofInt IntKind.u64.bits (((r * 4294967296 : Nat) : Int)) ||| BitVec.ofInt IntKind.u64.bits ((x : Nat) : Int)).toNat : Nat) = ((r * 4294967296 + x : Nat) : Int) := by
  have e : (BitVec.ofInt IntKind.u64.bits (((r * 4294967296 : Nat) : Int)) ||| BitVec.ofInt IntKind.u64.bits ((x : Nat) : Int)).toNat = r * 4294967296 + x := by
    rw [BitVec.toNat_or, BitVec.toNat_ofInt, BitVec.toNat_ofInt]
    have h1 : (((r * 4294967296 : Nat) : Int) % ((2 ^ IntKind.u64.bits : Nat) : Int)).toNat = r * 4294967296 := by
      show (((r * 4294967296 : Nat) : Int) % 18446744073709551616).toNat = _
      omega
    have h2 : (((x : Nat) : Int) % ((2 ^ IntKind.u64.bits : Nat) : Int)).toNat = x := by
      show (((x : Nat) : Int) % 18446744073709551616).toNat = _
      omega
    rw [h1, h2]
    have := Nat.shiftLeft_add_eq_or_of_lt (b := x) (i := 32) (by omega) r
    rw [Nat.shiftLeft_eq] at this
    exact this.symm
  rw [e, w64 (by omega)]
theorem shl_or (r x y : Nat) (hr : r < y) (hy : y < 4294967296) (hx : x < 4294967296) : IntKind.u64.wrap ((BitVec.ofInt IntKind.u64.bits (IntKind.u64.wrap ((r : Int) * 2 ^ sh 32 IntKind.u64)) ||| BitVec.ofInt IntKind.u64.bits (IntKind.u64.wrap ((x : Nat) : Int))).toNat : Nat) = ((r * 4294967296 + x : Nat) : Int) := by
  rw [show sh 32 IntKind.u64 = 32 from by decide, show ((r : Int) * 2 ^ 32) = ((r * 4294967296 : Nat) : Int) from by omega, w64 (n := r * 4294967296) (by omega), w64 (n := x) (by omega)]
  exact or_add r x (by omega) hx
set_option maxRecDepth 100000 in
set_option maxHeartbeats 2000000 in
theorem cQuo (a y m q i j K L : Nat) (o o2 : Chunk) (h : List (Option Chunk)) (hi : h[i]? = some (some o)) (hin : IsNum o m a) (hj : h[j]? = some (some o2)) (hjn : IsNum o2 q y) (hl : nl a ≤ m) (hm : m ≤ 20) (hy : nl y = 1) (hq : 1 ≤ q ∧ q ≤ 20) (hya : y ≤ a) (h0 : h[K]? = some none) (h1 : h[L]? = some none) (hKL : K ≠ L) :
    CallOK Try.prog 39 [.slice (some ⟨i, 0, some 0⟩) (nl a) m, .slice (some ⟨j, 0, some 0⟩) (nl y) q] h (.tuple #[.slice (some ⟨K, 0, some 0⟩) (nl (a / y)) (nl a), .slice (some ⟨L, 0, some 0⟩) (nl (a % y)) 1]) [(K, numC true (nl a) (a / y)), (L, numC true 1 (a % y))] [i, j] := by
  have hy1 : y < 4294967296 := by have := nl_self y; rw [hy, bw_one] at this; exact this
  have hyp : 0 < y := by rcases Nat.eq_zero_or_pos y with e | e; (rw [e, nl_zero] at hy; omega); exact e
  have hy0 : lm y 0 = y := by unfold lm; rw [bw_zero, Nat.div_one]; exact Nat.mod_eq_of_lt hy1
  have hna : nl a ≠ 0 := fun e => by have := nl_zero_iff.1 e; omega
  have hcm : (0 : Int) ≤ cmpN a y := by unfold cmpN; rw [if_neg (by omega)]; split <;> decide
  have hdv : a / y < bw (nl a) := Nat.lt_of_le_of_lt (Nat.div_le_self _ _) (nl_self a)
  have hmd : a % y < y := Nat.mod_lt _ hyp
  refine call_sub (G := tys) [⟨i, _, numC false m a, ⟨false, 0, []⟩⟩, ⟨j, _, numC false q y, ⟨false, 0, []⟩⟩] [⟨K, 6, numC true (nl a) (a / y)⟩, ⟨L, 11, numC true 1 (a % y)⟩] [.slice (some ⟨0, 0, some 0⟩) (nl a) m, .slice (some ⟨1, 0, some 0⟩) (nl y) q] tysOK mixed Try.func39 (by rfl) (Try.call39) ⟨hi, hj, trivial⟩ ⟨⟨fun h => (by cases h), Nat.le_of_eq hin.1.symm, num_re hin⟩, ⟨fun h => (by cases h), Nat.le_of_eq hjn.1.symm, num_re hjn⟩, trivial⟩ (by simp [Apart]) ⟨⟨h0, rfl, by show 0 < nl a; omega, by simp [hKL]⟩, ⟨h1, rfl, by show 0 < 1; decide, by simp⟩, trivial⟩ ⟨.slice rfl, .slice rfl, trivial⟩ ?_
  repeat' (refine N.go ?_; first | with_reducible refine N.obl (by decide) ?_ | with_reducible refine N.obl (flat_wi _ _ _) ?_ | with_reducible refine N.obl (flat_lim _ _) ?_ | with_reducible refine N.eq ?_ | with_reducible refine N.obl rfl ?_ | with_reducible refine N.obl ⟨by kernel_rfl, by kernel_rfl⟩ ?_ | with_reducible refine N.forkT ?_ | with_reducible refine N.forkF ?_ | refine MakeN.mk1 (nl a) (nl a) rfl rfl (by show 4 * (nl a) ≤ _; omega) (by omega) (Nat.mul_one _).symm ?_ | refine N.call (cCmp a y m q _ _ _ _ _ (by rfl) (isNum _ _ _) (by rfl) (isNum _ _ _) hl (by omega) (by omega) (by omega)) ?_ | refine N.forkYes (by rw [hy]; rfl) ?_ | refine N.forkNo (by decide) ?_ | refine N.forkYes (by decide) ?_ | refine N.forkYes (by rw [decide_eq_true_eq]; omega) ?_ | refine N.forkNo (by rw [decide_eq_false_iff_not]; omega) ?_ | refine N.obl trivial ?_ | exact N.true | fail_if_success skip)
  refine N.go ?_
  refine N.loop (α := Nat) (fun c => c ≤ nl a) (fun c => c) (fun c => [(8, .int .i64 ((c : Int) - 1)), (7, .int .u64 ((a / bw c % y : Nat) : Int))]) (fun c => [(6, numC true (nl a) (a / y / bw c * bw c))]) (nl a) (Nat.le_refl _) ?_ ?_
  · repeat (refine N.go ?_; first | exact N.true | with_reducible refine N.obl rfl ?_ | with_reducible refine N.obl (ChunkLe.refl _) ?_ | refine N.obl (int_i64 (by rw [IntWalk.i64_in _ (by omega)]; rfl)) ?_ | refine N.obl (inteq (by rw [i64n _ (by omega) (by omega)])) ?_ | refine N.obl (inteq (by rw [Nat.div_eq_of_lt (nl_self a), Nat.zero_mod]; rfl)) ?_ | refine N.obl (by rw [Nat.div_eq_of_lt hdv, Nat.zero_mul]; exact zeros_num) ?_ |  fail_if_success skip)
  · intro c hc
    have hc : c ≤ nl a := hc
    rcases Nat.eq_zero_or_pos c with rfl | hp
    · have he : a / y / bw 0 * bw 0 = a / y := by rw [bw_zero, Nat.div_one, Nat.mul_one]
      have hr : a / bw 0 % y = a % y := by rw [bw_zero, Nat.div_one]
      repeat' (refine N.go ?_; first | with_reducible refine N.obl (by decide) ?_ | with_reducible refine N.obl (flat_wi _ _ _) ?_ | with_reducible refine N.obl (flat_lim _ _) ?_ | with_reducible refine N.eq ?_ | with_reducible refine N.obl rfl ?_ | with_reducible refine N.obl ⟨by kernel_rfl, by kernel_rfl⟩ ?_ | with_reducible refine N.forkT ?_ | with_reducible refine N.forkF ?_ | refine N.call (cTrim (a / y) (nl a) (nl a) _ _ _ (by rfl) (by rw [he]; exact isNum _ _ _) (Nat.le_refl _) (by omega) hdv) ?_ | refine N.call (cTrim (a % y) 1 1 _ _ _ (by rfl) (isNum1 (by rw [hr, w32])) (Nat.le_refl _) (by omega) (by rw [bw_one]; omega)) ?_ | refine N.obl (.tuple ⟨.slice (by rfl), .slice (by rfl), trivial⟩) ?_ | refine N.obl ⟨⟨by show 2 ≤ 6; decide, post_num (by rfl) rfl (by rw [he]; exact isNum _ _ _)⟩, ⟨by show 2 ≤ 11; decide, post_num (by rfl) rfl (isNum1 (by rw [hr, w32]))⟩, trivial⟩ ?_ | refine N.forkNo (by decide) ?_ | refine N.forkYes (by decide) ?_ | refine N.forkYes (by rw [decide_eq_true_eq]; omega) ?_ | refine N.forkNo (by rw [decide_eq_false_iff_not]; omega) ?_ | refine N.obl trivial ?_ | exact N.true | fail_if_success skip)
    · obtain ⟨k, rfl⟩ : ∃ k, c = k + 1 := ⟨c - 1, by omega⟩
      obtain ⟨d1, d2, d3, d4⟩ := div_word a y k hyp hy1
      have e1 : (((k + 1 : Nat) : Int) - 1) = (k : Int) := by omega
      have hr : a / bw (k + 1) % y < y := Nat.mod_lt _ hyp
      generalize a / bw (k + 1) % y = r at *
      have hx := lm_lt a k
      have ev : IntKind.u64.wrap ((BitVec.ofInt IntKind.u64.bits (IntKind.u64.wrap ((r : Int) * 2 ^ sh 32 IntKind.u64)) ||| BitVec.ofInt IntKind.u64.bits (IntKind.u64.wrap ((lm a k : Nat) : Int))).toNat : Nat) = ((r * 4294967296 + lm a k : Nat) : Int) := shl_or r (lm a k) y hr hy1 hx
      generalize hT : r * 4294967296 + lm a k = T at *
      have ey : IntKind.u64.wrap ((lm y 0 : Nat) : Int) = (y : Int) := by rw [hy0, w64 (by omega)]
      have hyz : IntKind.u64.wrap ((lm y 0 : Nat) : Int) ≠ 0 := by rw [ey]; omega
      repeat' (refine N.go ?_; first | with_reducible refine N.obl (by decide) ?_ | with_reducible refine N.obl (flat_wi _ _ _) ?_ | with_reducible refine N.obl (flat_lim _ _) ?_ | with_reducible refine N.eq ?_ | with_reducible refine N.obl rfl ?_ | with_reducible refine N.obl ⟨by kernel_rfl, by kernel_rfl⟩ ?_ | with_reducible refine N.forkT ?_ | with_reducible refine N.forkF ?_ | refine N.idx k 1 e1 (by omega) ?_ | refine N.load _ (reads_num (p := k) (by omega) (by omega)) ?_ | refine N.idx 0 1 rfl (by omega) ?_ | refine N.load _ (reads_num (p := 0) (by omega) (by omega)) ?_ | refine N.obl hyz ?_ | refine N.store _ (writes_down rfl (by omega) (by rw [ev, ey, ← Int.ofNat_tdiv]; (try rw [w64 (by omega)]); rw [w32, d1]; omega)) ?_ | refine N.forkNo (by decide) ?_ | refine N.forkYes (by decide) ?_ | refine N.forkYes (by rw [decide_eq_true_eq]; omega) ?_ | refine N.forkNo (by rw [decide_eq_false_iff_not]; omega) ?_ | refine N.obl trivial ?_ | exact N.true | fail_if_success skip)
      refine N.go ?_
      refine N.next k ⟨by show k ≤ nl a; omega, by omega⟩ ?_
      repeat (refine N.go ?_; first | exact N.true | with_reducible refine N.obl rfl ?_ | with_reducible refine N.obl (ChunkLe.refl _) ?_ | refine N.obl (int_i64 (by rw [IntWalk.i64_in _ (by omega)]; rfl)) ?_ | refine N.obl (inteq (by rw [e1]; exact i64n _ (by omega) (by omega))) ?_ | refine N.obl (inteq (by rw [ev, ey, ← Int.ofNat_tmod, d2])) ?_ |  fail_if_success skip)
end Go.Proofs.Ytkjeebabcdnjkaa
