/-
  The walks of the document's numbers: left, right, plus of nothing.
-/
import Derived.Test.YtkjeebabcdnjkaaRd0
set_option linter.unusedVariables false
set_option linter.unusedSimpArgs false
namespace Go.Proofs.Ytkjeebabcdnjkaa
open Go Go.RowKit Sx

/-- One word of a half. -/
theorem half_word (v i : Nat) : lm (v / 2) i = (lm v i + lm v (i + 1) * 4294967296) / 2 % 4294967296 := by
  have h1 := up_word v i
  have h2 := up_word v (i + 1)
  have e : v / 2 / bw i = v / bw i / 2 := by rw [Nat.div_div_eq_div_mul, Nat.mul_comm, ← Nat.div_div_eq_div_mul]
  show v / 2 / bw i % 4294967296 = _
  rw [e, h1, h2]
  generalize v / bw (i + 1 + 1) = q
  have := lm_lt v i
  have := lm_lt v (i + 1)
  omega
theorem bw_two (j : Nat) : bw j = 2 ^ (32 * j) := by
  unfold bw
  rw [show (4294967296 : Nat) = 2 ^ 32 from by decide, ← Nat.pow_mul]
theorem bn_self : ∀ (n v : Nat), bn v = n → v < 2 ^ n
  | 0, v, h => by
    rcases Nat.eq_zero_or_pos v with rfl | hv
    · decide
    · rw [bn_pos hv] at h; omega
  | n + 1, v, h => by
    rcases Nat.eq_zero_or_pos v with rfl | hv
    · exact Nat.pow_pos (by decide)
    · rw [bn_pos hv] at h
      have := bn_self n (v / 2) (by omega)
      rw [Nat.pow_succ]; omega
theorem bitn_self (v : Nat) : v < 2 ^ bitn v := by
  unfold bitn
  split
  · rename_i h; subst h; decide
  · rename_i h
    have h0 : nl v ≠ 0 := fun e => h (nl_zero_iff.1 e)
    have hs := nl_self v
    obtain ⟨y, hy⟩ : ∃ y, nl v = y + 1 := ⟨nl v - 1, by omega⟩
    rw [hy] at hs ⊢
    rw [show y + 1 - 1 = y from by omega]
    have hu := up_word v y
    rw [Nat.div_eq_of_lt hs, Nat.zero_mul, Nat.zero_add] at hu
    have hb := bn_self _ _ (rfl : bn (lm v y) = bn (lm v y))
    rw [← hu] at hb
    have h2 := (Nat.div_lt_iff_lt_mul (bw_pos y)).1 hb
    rw [Nat.pow_add, ← bw_two, Nat.mul_comm, hu.symm]
    exact h2
theorem pow_word {n : Nat} (h : n < 32) : 2 ^ n < 4294967296 := Nat.pow_lt_pow_right (by decide) h
theorem shr_one (x : Nat) (hx : x < 4294967296) : (IntKind.u64.wrap ((x : Nat) : Int)).fdiv (2 ^ sh (IntKind.u64.wrap (Int.tmod 1 32)) IntKind.u64) = ((x / 2 : Nat) : Int) := by
  rw [show sh (IntKind.u64.wrap (Int.tmod 1 32)) IntKind.u64 = 1 from by decide, w64 (by omega), Int.fdiv_eq_ediv_of_nonneg _ (by decide)]; omega
theorem shr_or (x z : Nat) (hx : x < 4294967296) (hz : z < 4294967296) : (IntKind.u64.wrap ((BitVec.ofInt IntKind.u64.bits (IntKind.u64.wrap ((x : Nat) : Int)) ||| BitVec.ofInt IntKind.u64.bits (IntKind.u64.wrap (IntKind.u64.wrap ((z : Nat) : Int) * 2 ^ sh 32 IntKind.u64))).toNat : Nat)).fdiv (2 ^ sh (IntKind.u64.wrap (Int.tmod 1 32)) IntKind.u64) = (((x + z * 4294967296) / 2 : Nat) : Int) := by
  rw [show sh (IntKind.u64.wrap (Int.tmod 1 32)) IntKind.u64 = 1 from by decide, show sh 32 IntKind.u64 = 32 from by decide, w64 (n := x) (by omega), w64 (n := z) (by omega), show ((z : Int) * 2 ^ 32) = ((z * 4294967296 : Nat) : Int) from by omega, w64 (n := z * 4294967296) (by omega)]
  rw [or_add' z x hz hx, Int.fdiv_eq_ediv_of_nonneg _ (by decide)]; omega
/-- Whether an odd number is halved. -/
def lostB (v : Nat) : Bool := (IntKind.u32.wrap ((BitVec.ofInt IntKind.u32.bits ((lm v 0 : Nat) : Int) &&& BitVec.ofInt IntKind.u32.bits (IntKind.u32.wrap (IntKind.u32.wrap (1 * 2 ^ sh (IntKind.u64.wrap (Int.tmod 1 32)) IntKind.u32) - 1))).toNat : Nat) != 0)
set_option maxRecDepth 100000 in
set_option maxHeartbeats 2000000 in
theorem cRight (v m i K : Nat) (o : Chunk) (h : List (Option Chunk)) (hi : h[i]? = some (some o)) (hin : IsNum o m v) (hl : nl v ≤ m) (hm : m ≤ 20) (hp : 0 < nl v) (h0 : h[K]? = some none) :
    CallOK Try.prog 40 [.slice (some ⟨i, 0, some 0⟩) (nl v) m, .int .i64 1] h (.tuple #[.slice (some ⟨K, 0, some 0⟩) (nl (v / 2)) (nl v), .bool (lostB v)]) [(K, numC true (nl v) (v / 2))] [i] := by
  have e0 : (0 + if m = 0 then 0 else 0 * Try.t67.size) = 0 := by simp
  have hd : v / 2 < bw (nl v) := Nat.lt_of_le_of_lt (Nat.div_le_self _ _) (nl_self v)
  refine call_sub (G := tys) [⟨i, _, numC false m v, ⟨false, 0, []⟩⟩] [⟨K, 5, numC true (nl v) (v / 2)⟩] [.slice (some ⟨0, 0, some 0⟩) (nl v) m, .int .i64 1] tysOK mixed Try.func40 (by rfl) (Try.call40) ⟨hi, trivial⟩ ⟨⟨fun h => (by cases h), Nat.le_of_eq hin.1.symm, num_re hin⟩, trivial⟩ (by simp [Apart]) ⟨⟨h0, rfl, by show 0 < nl v; omega, by simp⟩, trivial⟩ ⟨.slice rfl, .plain rfl, trivial⟩ ?_
  repeat' (refine N.go ?_; first | with_reducible refine N.obl (by decide) ?_ | with_reducible refine N.obl (flat_wi _ _ _) ?_ | with_reducible refine N.obl (flat_lim _ _) ?_ | with_reducible refine N.eq ?_ | with_reducible refine N.obl rfl ?_ | with_reducible refine N.obl ⟨by kernel_rfl, by kernel_rfl⟩ ?_ | with_reducible refine N.forkT ?_ | with_reducible refine N.forkF ?_ | refine MakeN.mk1 (nl v) (nl v) rfl rfl (by show 4 * (nl v) ≤ _; omega) (by omega) (Nat.mul_one _).symm ?_ | refine N.forkNo (by rw [decide_eq_false_iff_not, i64n _ (by omega) (by omega)]; omega) ?_ | refine N.bnd 0 0 0 ⟨by decide, by omega⟩ rfl ?_ | (refine N.bnd 0 (nl v) 0 rfl ⟨by decide, by omega⟩ ?_; rw [e0, show nl v - 0 = nl v from rfl, show m - 0 = m from rfl]) | refine N.idx 0 1 rfl (by omega) ?_ | refine N.load _ (reads_num (p := 0) (by omega) (by simp)) ?_ | refine N.forkNo (by decide) ?_ | refine N.forkYes (by decide) ?_ | refine N.forkYes (by rw [decide_eq_true_eq]; omega) ?_ | refine N.forkNo (by rw [decide_eq_false_iff_not]; omega) ?_ | refine N.obl trivial ?_ | exact N.true | fail_if_success skip)
  refine N.go ?_
  refine N.roll 1 ?_
  repeat' (refine N.go ?_; first | with_reducible refine N.obl (by decide) ?_ | with_reducible refine N.obl (flat_wi _ _ _) ?_ | with_reducible refine N.obl (flat_lim _ _) ?_ | with_reducible refine N.eq ?_ | with_reducible refine N.obl rfl ?_ | with_reducible refine N.obl ⟨by kernel_rfl, by kernel_rfl⟩ ?_ | with_reducible refine N.forkT ?_ | with_reducible refine N.forkF ?_ | refine MakeN.mk1 (nl v) (nl v) rfl rfl (by show 4 * (nl v) ≤ _; omega) (by omega) (Nat.mul_one _).symm ?_ | refine N.forkNo (by rw [decide_eq_false_iff_not, i64n _ (by omega) (by omega)]; omega) ?_ | refine N.bnd 0 0 0 ⟨by decide, by omega⟩ rfl ?_ | (refine N.bnd 0 (nl v) 0 rfl ⟨by decide, by omega⟩ ?_; rw [e0, show nl v - 0 = nl v from rfl, show m - 0 = m from rfl]) | refine N.idx 0 1 rfl (by omega) ?_ | refine N.load _ (reads_num (p := 0) (by omega) (by simp)) ?_ | refine N.forkNo (by decide) ?_ | refine N.forkYes (by decide) ?_ | refine N.forkYes (by rw [decide_eq_true_eq]; omega) ?_ | refine N.forkNo (by rw [decide_eq_false_iff_not]; omega) ?_ | refine N.obl trivial ?_ | exact N.true | fail_if_success skip)
  refine N.go ?_
  refine N.loop (α := Nat) (fun i => i ≤ nl v) (fun i => nl v - i) (fun i => [(59, .int .i64 (i : Int))]) (fun i => [(5, numC true (nl v) (v / 2 % bw i))]) 0 (Nat.zero_le _) ?_ ?_
  · repeat (refine N.go ?_; first | exact N.true | with_reducible refine N.obl rfl ?_ | with_reducible refine N.obl (ChunkLe.refl _) ?_ | refine N.obl (int_i64 (by rw [IntWalk.i64_in _ (by omega)]; rfl)) ?_ | refine N.obl (by rw [bw_zero, Nat.mod_one]; exact zeros_num) ?_ |  fail_if_success skip)
  · intro i hi'
    have hi' : i ≤ nl v := hi'
    rcases Nat.lt_or_ge i (nl v) with hlt | hge
    · have hw := half_word v i
      have hx := lm_lt v i
      have hz := lm_lt v (i + 1)
      rcases Nat.lt_or_ge (i + 1) (nl v) with hib | hib
      · have ev := shr_or (lm v i) (lm v (i + 1)) hx hz
        repeat' (refine N.go ?_; first | with_reducible refine N.obl (by decide) ?_ | with_reducible refine N.obl (flat_wi _ _ _) ?_ | with_reducible refine N.obl (flat_lim _ _) ?_ | with_reducible refine N.eq ?_ | with_reducible refine N.obl rfl ?_ | with_reducible refine N.obl ⟨by kernel_rfl, by kernel_rfl⟩ ?_ | with_reducible refine N.forkT ?_ | with_reducible refine N.forkF ?_ | refine N.store _ (writes_next rfl (by omega) (by rw [ev, w32, hw])) ?_ | refine N.idx i 1 rfl (by omega) ?_ | refine N.load _ (reads_num (p := i) (by omega) (by omega)) ?_ | refine N.idx (i + 1) 1 (by rw [i64n _ (by omega) (by omega)]; omega) (by omega) ?_ | refine N.load _ (reads_num (p := i + 1) (by omega) (by omega)) ?_ | refine N.forkYes (by rw [decide_eq_true_eq, i64n _ (by omega) (by omega)]; omega) ?_ | refine N.forkNo (by rw [decide_eq_false_iff_not, i64n _ (by omega) (by omega)]; omega) ?_ | refine N.forkNo (by decide) ?_ | refine N.forkYes (by decide) ?_ | refine N.forkYes (by rw [decide_eq_true_eq]; omega) ?_ | refine N.forkNo (by rw [decide_eq_false_iff_not]; omega) ?_ | refine N.obl trivial ?_ | exact N.true | fail_if_success skip)
        refine N.go ?_
        refine N.next (i + 1) ⟨by show i + 1 ≤ nl v; omega, by omega⟩ ?_
        repeat (refine N.go ?_; first | exact N.true | with_reducible refine N.obl rfl ?_ | with_reducible refine N.obl (ChunkLe.refl _) ?_ | refine N.obl (int_i64 (by rw [IntWalk.i64_in _ (by omega)]; rfl)) ?_ | refine N.obl (inteq (by rw [i64n _ (by omega) (by omega)]; omega)) ?_ |  fail_if_success skip)
      · have h0 : lm v (i + 1) = 0 := lm_big (Nat.lt_of_lt_of_le (nl_self v) (bw_mono hib))
        have ev := shr_one (lm v i) hx
        repeat' (refine N.go ?_; first | with_reducible refine N.obl (by decide) ?_ | with_reducible refine N.obl (flat_wi _ _ _) ?_ | with_reducible refine N.obl (flat_lim _ _) ?_ | with_reducible refine N.eq ?_ | with_reducible refine N.obl rfl ?_ | with_reducible refine N.obl ⟨by kernel_rfl, by kernel_rfl⟩ ?_ | with_reducible refine N.forkT ?_ | with_reducible refine N.forkF ?_ | refine N.store _ (writes_next rfl (by omega) (by rw [ev, w32, hw, h0, Nat.zero_mul, Nat.add_zero])) ?_ | refine N.idx i 1 rfl (by omega) ?_ | refine N.load _ (reads_num (p := i) (by omega) (by omega)) ?_ | refine N.idx (i + 1) 1 (by rw [i64n _ (by omega) (by omega)]; omega) (by omega) ?_ | refine N.load _ (reads_num (p := i + 1) (by omega) (by omega)) ?_ | refine N.forkYes (by rw [decide_eq_true_eq, i64n _ (by omega) (by omega)]; omega) ?_ | refine N.forkNo (by rw [decide_eq_false_iff_not, i64n _ (by omega) (by omega)]; omega) ?_ | refine N.forkNo (by decide) ?_ | refine N.forkYes (by decide) ?_ | refine N.forkYes (by rw [decide_eq_true_eq]; omega) ?_ | refine N.forkNo (by rw [decide_eq_false_iff_not]; omega) ?_ | refine N.obl trivial ?_ | exact N.true | fail_if_success skip)
        refine N.go ?_
        refine N.next (i + 1) ⟨by show i + 1 ≤ nl v; omega, by omega⟩ ?_
        repeat (refine N.go ?_; first | exact N.true | with_reducible refine N.obl rfl ?_ | with_reducible refine N.obl (ChunkLe.refl _) ?_ | refine N.obl (int_i64 (by rw [IntWalk.i64_in _ (by omega)]; rfl)) ?_ | refine N.obl (inteq (by rw [i64n _ (by omega) (by omega)]; omega)) ?_ |  fail_if_success skip)
    · obtain rfl : i = nl v := by omega
      have he : v / 2 % bw (nl v) = v / 2 := Nat.mod_eq_of_lt hd
      repeat' (refine N.go ?_; first | with_reducible refine N.obl (by decide) ?_ | with_reducible refine N.obl (flat_wi _ _ _) ?_ | with_reducible refine N.obl (flat_lim _ _) ?_ | with_reducible refine N.eq ?_ | with_reducible refine N.obl rfl ?_ | with_reducible refine N.obl ⟨by kernel_rfl, by kernel_rfl⟩ ?_ | with_reducible refine N.forkT ?_ | with_reducible refine N.forkF ?_ | refine N.call (cTrim (v / 2) (nl v) (nl v) _ _ _ (by rfl) (by rw [he]; exact isNum _ _ _) (Nat.le_refl _) (by omega) hd) ?_ | refine N.obl (.tuple ⟨.slice (by rfl), .plain (by rfl), trivial⟩) ?_ | refine N.obl ⟨⟨by show 1 ≤ 5; decide, post_num (by rfl) rfl (by rw [he]; exact isNum _ _ _)⟩, trivial⟩ ?_ | refine N.forkNo (by decide) ?_ | refine N.forkYes (by decide) ?_ | refine N.forkYes (by rw [decide_eq_true_eq]; omega) ?_ | refine N.forkNo (by rw [decide_eq_false_iff_not]; omega) ?_ | refine N.obl trivial ?_ | exact N.true | fail_if_success skip)
theorem or32 (x : Nat) (hx : x < 4294967296) : IntKind.u32.wrap ((BitVec.ofInt IntKind.u32.bits 0 ||| BitVec.ofInt IntKind.u32.bits ((x : Nat) : Int)).toNat : Nat) = ((x : Nat) : Int) := by
  have e : (BitVec.ofInt IntKind.u32.bits 0 ||| BitVec.ofInt IntKind.u32.bits ((x : Nat) : Int)).toNat = x := by
    rw [BitVec.toNat_or, BitVec.toNat_ofInt, BitVec.toNat_ofInt]
    have h1 : (((x : Nat) : Int) % ((2 ^ IntKind.u32.bits : Nat) : Int)).toNat = x := by
      show (((x : Nat) : Int) % 4294967296).toNat = _
      omega
    rw [h1]
    show (0 : Nat) ||| x = x
    exact Nat.zero_or x
  rw [e, w32]; omega
theorem two_pow (n : Nat) (h : n < 32) : IntKind.u64.wrap (IntKind.u64.wrap ((lm 1 0 : Nat) : Int) * 2 ^ sh (IntKind.u64.wrap ((n : Int).tmod 32)) IntKind.u64) = ((2 ^ n : Nat) : Int) := by
  have hp := pow_word h
  have e1 : (n : Int).tmod 32 = (n : Int) := by rw [Int.tmod_eq_emod_of_nonneg (by omega)]; omega
  have e2 : sh (n : Int) IntKind.u64 = n := by unfold sh; show min ((n : Int)).toNat 64 = n; omega
  rw [e1, w64 (n := n) (by omega), e2, (lm01 (y := 1) (by decide)).1, w64 (n := 1) (by decide)]
  rw [show ((1 : Nat) : Int) * 2 ^ n = ((2 ^ n : Nat) : Int) from by rw [Int.natCast_pow]; show (1 : Int) * 2 ^ n = 2 ^ n; exact Int.one_mul _, w64 (by omega)]
set_option maxRecDepth 100000 in
set_option maxHeartbeats 2000000 in
theorem cLeft (n i K : Nat) (o : Chunk) (h : List (Option Chunk)) (hi : h[i]? = some (some o)) (hin : IsNum o 1 1) (hn : n < 32) (h0 : h[K]? = some none) :
    CallOK Try.prog 37 [.slice (some ⟨i, 0, some 0⟩) 1 1, .int .i64 (n : Int)] h (.slice (some ⟨K, 0, some 0⟩) (nl (2 ^ n)) 2) [(K, numC true 2 (2 ^ n))] [i] := by
  have hp := pow_word hn
  have hb2 : 2 ^ n < bw 2 := by have : bw 2 = 18446744073709551616 := by decide
                                omega
  have ev := two_pow n hn
  have eq : IntKind.i64.wrap ((n : Int).tdiv 32) = 0 := by rw [Int.tdiv_eq_ediv_of_nonneg (by omega), i64n _ (by omega) (by omega)]; omega
  refine call_sub (G := tys) [⟨i, _, numC false 1 1, ⟨false, 0, []⟩⟩] [⟨K, 5, numC true 2 (2 ^ n)⟩] [.slice (some ⟨0, 0, some 0⟩) 1 1, .int .i64 (n : Int)] tysOK mixed Try.func37 (by rfl) (Try.call37) ⟨hi, trivial⟩ ⟨⟨fun h => (by cases h), Nat.le_of_eq hin.1.symm, num_re hin⟩, trivial⟩ (by simp [Apart]) ⟨⟨h0, rfl, by show 0 < 2; decide, by simp⟩, trivial⟩ ⟨.slice rfl, .plain rfl, trivial⟩ ?_
  have hnn : 0 ≤ IntKind.u64.wrap ((n : Int).tmod 32) := by rw [IntKind.wrap_u64]; omega
  generalize hX : 2 ^ n = X at *
  repeat' (refine N.go ?_; first | with_reducible refine N.obl (by decide) ?_ | with_reducible refine N.obl (flat_wi _ _ _) ?_ | with_reducible refine N.obl (flat_lim _ _) ?_ | with_reducible refine N.eq ?_ | with_reducible refine N.obl rfl ?_ | with_reducible refine N.obl ⟨by kernel_rfl, by kernel_rfl⟩ ?_ | with_reducible refine N.forkT ?_ | with_reducible refine N.forkF ?_ | refine MakeN.mk1 2 2 (by rw [eq]; decide) (by rw [eq]; decide) (by decide) (by decide) rfl ?_ | refine N.roll 2 ?_ | refine N.obl hnn ?_ | refine N.idx 0 1 (by first | rfl | (rw [eq]; decide)) (by omega) ?_ | refine N.idx 1 1 (by rw [eq]; decide) (by omega) ?_ | refine N.load _ (reads_num (p := 0) (by omega) (by omega)) ?_ | refine N.load (.int .u32 0) (reads_seg1 (by decide) rfl rfl) ?_ | refine N.load _ (reads_num (p := 1) (by omega) (by omega)) ?_ | refine N.store _ (writes_z rfl (by rw [ev, w32 X, show ((X % 4294967296 : Nat) : Int) = (X : Int) from by omega]; exact or32 X hp) hp) ?_ | refine N.store _ (writes_z1 rfl (by rw [ev, fd32, w32 (X / 4294967296), (lm01 hp).2, show ((X / 4294967296 % 4294967296 : Nat) : Int) = ((0 : Nat) : Int) from by omega]; exact or32 0 (by decide)) hp) ?_ | refine N.call (cTrim X 2 2 _ _ _ (by rfl) (isNum _ _ _) (Nat.le_refl _) (by decide) hb2) ?_ | refine N.obl (re_sl (by rfl) rfl) ?_ | refine N.obl ⟨⟨by show 1 ≤ 5; decide, post_num (by rfl) rfl (isNum _ _ _)⟩, trivial⟩ ?_ | refine N.forkNo (by decide) ?_ | refine N.forkYes (by decide) ?_ | refine N.forkYes (by rw [decide_eq_true_eq]; omega) ?_ | refine N.forkNo (by rw [decide_eq_false_iff_not]; omega) ?_ | refine N.obl trivial ?_ | exact N.true | fail_if_success skip)
set_option maxRecDepth 100000 in
set_option maxHeartbeats 2000000 in
theorem cPlusX (a m i K : Nat) (o : Chunk) (h : List (Option Chunk)) (hi : h[i]? = some (some o)) (hin : IsNum o m a) (hl : nl a ≤ m) (hm : m ≤ 20) (h0 : h[K]? = some none) :
    CallOK Try.prog 41 [.slice (some ⟨i, 0, some 0⟩) (nl a) m, .slice none 0 0] h (.slice (some ⟨K, 0, some 0⟩) (nl a) (nl a + 1)) [(K, numC true (nl a + 1) a)] [i] := by
  have hs : a < bw (nl a + 1) := Nat.lt_of_lt_of_le (nl_self a) (bw_mono (Nat.le_succ _))
  refine call_sub (G := tys) [⟨i, _, numC false m a, ⟨false, 0, []⟩⟩] [⟨K, 5, numC true (nl a + 1) a⟩] [.slice (some ⟨0, 0, some 0⟩) (nl a) m, .slice none 0 0] tysOK mixed Try.func41 (by rfl) (Try.call41) ⟨hi, trivial⟩ ⟨⟨fun h => (by cases h), Nat.le_of_eq hin.1.symm, num_re hin⟩, trivial⟩ (by simp [Apart]) ⟨⟨h0, rfl, by show 0 < nl a + 1; omega, by simp⟩, trivial⟩ ⟨.slice rfl, .plain rfl, trivial⟩ ?_
  repeat' (refine N.go ?_; first | with_reducible refine N.obl (by decide) ?_ | with_reducible refine N.obl (flat_wi _ _ _) ?_ | with_reducible refine N.obl (flat_lim _ _) ?_ | with_reducible refine N.eq ?_ | with_reducible refine N.obl rfl ?_ | with_reducible refine N.obl ⟨by kernel_rfl, by kernel_rfl⟩ ?_ | with_reducible refine N.forkT ?_ | with_reducible refine N.forkF ?_ | refine MakeN.mk1 (nl a + 1) (nl a + 1) (by rw [i64n _ (by omega) (by omega)]; rfl) (by rw [i64n _ (by omega) (by omega)]; rfl) (by show 4 * (nl a + 1) ≤ _; omega) (by omega) (Nat.mul_one _).symm ?_ | refine N.forkNo (by decide) ?_ | refine N.forkYes (by decide) ?_ | refine N.forkYes (by rw [decide_eq_true_eq]; omega) ?_ | refine N.forkNo (by rw [decide_eq_false_iff_not]; omega) ?_ | refine N.obl trivial ?_ | exact N.true | fail_if_success skip)
  refine N.go ?_
  refine N.loop (α := Nat) (fun i => i ≤ nl a) (fun i => nl a - i) (fun i => [(21, .int .i64 (i : Int)), (6, .int .u64 0)]) (fun i => [(5, numC true (nl a + 1) (a % bw i))]) 0 (Nat.zero_le _) ?_ ?_
  · repeat (refine N.go ?_; first | exact N.true | with_reducible refine N.obl rfl ?_ | with_reducible refine N.obl (ChunkLe.refl _) ?_ | refine N.obl (int_i64 (by rw [IntWalk.i64_in _ (by omega)]; rfl)) ?_ | refine N.obl (by rw [bw_zero, Nat.mod_one]; exact zeros_num) ?_ |  fail_if_success skip)
  · intro i hi'
    have hi' : i ≤ nl a := hi'
    rcases Nat.lt_or_ge i (nl a) with hlt | hge
    · have hx := lm_lt a i
      have ev : IntKind.u64.wrap (0 + IntKind.u64.wrap ((lm a i : Nat) : Int)) = ((lm a i : Nat) : Int) := by rw [w64 (n := lm a i) (by omega), Int.zero_add, w64 (by omega)]
      repeat' (refine N.go ?_; first | with_reducible refine N.obl (by decide) ?_ | with_reducible refine N.obl (flat_wi _ _ _) ?_ | with_reducible refine N.obl (flat_lim _ _) ?_ | with_reducible refine N.eq ?_ | with_reducible refine N.obl rfl ?_ | with_reducible refine N.obl ⟨by kernel_rfl, by kernel_rfl⟩ ?_ | with_reducible refine N.forkT ?_ | with_reducible refine N.forkF ?_ | refine N.store _ (writes_next rfl (by omega) (by rw [ev, w32]; omega)) ?_ | refine N.idx i 1 rfl (by omega) ?_ | refine N.load _ (reads_num (p := i) (by omega) (by omega)) ?_ | refine N.forkNo (by decide) ?_ | refine N.forkYes (by decide) ?_ | refine N.forkYes (by rw [decide_eq_true_eq]; omega) ?_ | refine N.forkNo (by rw [decide_eq_false_iff_not]; omega) ?_ | refine N.obl trivial ?_ | exact N.true | fail_if_success skip)
      refine N.go ?_
      refine N.next (i + 1) ⟨by show i + 1 ≤ nl a; omega, by omega⟩ ?_
      repeat (refine N.go ?_; first | exact N.true | with_reducible refine N.obl rfl ?_ | with_reducible refine N.obl (ChunkLe.refl _) ?_ | refine N.obl (int_i64 (by rw [IntWalk.i64_in _ (by omega)]; rfl)) ?_ | refine N.obl (inteq (by rw [i64n _ (by omega) (by omega)]; omega)) ?_ | refine N.obl (inteq (by rw [ev, fd32]; omega)) ?_ |  fail_if_success skip)
    · obtain rfl : i = nl a := by omega
      have hc : lm a (nl a) = 0 := lm_big (nl_self a)
      have he : a % bw (nl a + 1) = a := Nat.mod_eq_of_lt hs
      repeat' (refine N.go ?_; first | with_reducible refine N.obl (by decide) ?_ | with_reducible refine N.obl (flat_wi _ _ _) ?_ | with_reducible refine N.obl (flat_lim _ _) ?_ | with_reducible refine N.eq ?_ | with_reducible refine N.obl rfl ?_ | with_reducible refine N.obl ⟨by kernel_rfl, by kernel_rfl⟩ ?_ | with_reducible refine N.forkT ?_ | with_reducible refine N.forkF ?_ | refine N.idx (nl a) 1 rfl (by omega) ?_ | refine N.store _ (writes_next rfl (by omega) (by rw [hc]; decide)) ?_ | refine N.call (cTrim a (nl a + 1) (nl a + 1) _ _ _ (by rfl) (by rw [he]; exact isNum _ _ _) (by omega) (by omega) hs) ?_ | refine N.obl (re_sl (by rfl) rfl) ?_ | refine N.obl ⟨⟨by show 1 ≤ 5; decide, post_num (by rfl) rfl (by rw [he]; exact isNum _ _ _)⟩, trivial⟩ ?_ | refine N.forkNo (by decide) ?_ | refine N.forkYes (by decide) ?_ | refine N.forkYes (by rw [decide_eq_true_eq]; omega) ?_ | refine N.forkNo (by rw [decide_eq_false_iff_not]; omega) ?_ | refine N.obl trivial ?_ | exact N.true | fail_if_success skip)
end Go.Proofs.Ytkjeebabcdnjkaa
