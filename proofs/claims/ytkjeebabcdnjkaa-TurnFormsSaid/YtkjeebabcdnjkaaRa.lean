/-
  The walks of the document's numbers: trim, bits, cmp.
-/
import Derived.Test.YtkjeebabcdnjkaaLimb
import Derived.Test.YtkjeebabcdnjkaaArg
import Derived.Test.YtkjeebabcdnjkaaMore
set_option linter.unusedVariables false
set_option linter.unusedSimpArgs false
namespace Go.Proofs.Ytkjeebabcdnjkaa
open Go Go.RowKit Sx

theorem i64n (n : Int) (h0 : -9223372036854775808 ≤ n) (h1 : n < 9223372036854775808) : IntKind.i64.wrap n = n := by rw [IntKind.wrap_i64]; omega
theorem re_eqn {ix : List (Nat × Nat)} {v u : Value} (h : v = u) (hp : plain3 v = true) : Re ix v u := by subst h; exact .plain hp
theorem inteq {k : IntKind} {a b : Int} (h : a = b) : Value.int k a = .int k b := by rw [h]
theorem re_sl {ix : List (Nat × Nat)} {i k l l' c : Nat} (h : ixK ix k = some i) (e : l = l') : Re ix (.slice (some ⟨i, 0, some 0⟩) l c) (.slice (some ⟨k, 0, some 0⟩) l' c) := by subst e; exact .one (.slice h)
theorem MakeN.mk1 {a b : Int} {bytes size : Nat} {K : Nat → Nat → Prop} (n m : Nat) (ha : a = (n : Nat)) (hb : b = (n : Nat)) (h1 : bytes * n ≤ 281474976710656) (h2 : n ≤ 9223372036854775807) (hm : m = n * size) (k : K n m) : N (MakeN a b bytes size K) := N.mk ⟨n, m, ha, hb, h1, h2, hm, k⟩
/-- Words of a number, m of them. -/
abbrev numC (o : Bool) (m v : Nat) : Chunk := ⟨o, m, [(0, m, .agg ⟨segL m (fun j => .int .u32 ((lm v j : Nat) : Int))⟩)]⟩
/-- A stretch that holds the words of a number. -/
def IsNum (c : Chunk) (m v : Nat) : Prop := c.n = m ∧ ∀ j, j < m → c.f j = .int .u32 ((lm v j : Nat) : Int)
theorem isNum (o : Bool) (m v : Nat) : IsNum (numC o m v) m v := ⟨rfl, fun j hj => seg_cell hj⟩
theorem num_re {ix : List (Nat × Nat)} {c : Chunk} {o : Bool} {m v : Nat} (hc : IsNum c m v) : ChunkRe ix c (numC o m v) := fun j hj => by
  have hj : j < m := hj
  rw [seg_cell hj, hc.2 j hj]; exact .plain rfl
theorem reads_num {o : Bool} {m v p q : Nat} (h : p < m) (e : q = p) : Reads (numC o m v) q false 1 (.int .u32 ((lm v p : Nat) : Int)) := by
  subst e; exact reads_seg1 h rfl rfl
theorem N.bnd {lo hi : Option Value} {len cap : Nat} {K : Nat → Nat → Nat → Prop} (p q s : Nat) (h1 : Bnd hi len cap q) (h2 : Bnd lo 0 q p) (k : K p q s) : N (BndN lo hi len cap K) := N.mk ⟨p, q, s, h1, h2, k⟩
theorem sl_cut {i m x y : Nat} (h : y = x) : Value.slice (some ⟨i, 0 + (if m = 0 then 0 else 0 * 1), some 0⟩) (y - 0) (m - 0) = .slice (some ⟨i, 0, some 0⟩) x m := by
  subst h; simp
set_option maxRecDepth 100000 in
set_option maxHeartbeats 2000000 in
theorem cTrim (v m l i : Nat) (o : Chunk) (h : List (Option Chunk)) (hi : h[i]? = some (some o)) (hin : IsNum o m v) (hl : l ≤ m) (hm : m ≤ 1000000) (hv : v < bw l) :
    CallOK Try.prog 52 [.slice (some ⟨i, 0, some 0⟩) l m] h (.slice (some ⟨i, 0, some 0⟩) (nl v) m) [] [i] := by
  refine call_sub (G := tys) [⟨i, _, numC false m v, ⟨false, 0, []⟩⟩] [] [.slice (some ⟨0, 0, some 0⟩) l m] tysOK mixed Try.func52 (by rfl) (Try.call52) ⟨hi, trivial⟩ ⟨⟨fun h => (by cases h), Nat.le_of_eq hin.1.symm, num_re hin⟩, trivial⟩ (by simp [Apart]) trivial ⟨.slice rfl, trivial⟩ ?_
  repeat' (refine N.go ?_; first | with_reducible refine N.obl (by decide) ?_ | with_reducible refine N.obl (flat_wi _ _ _) ?_ | with_reducible refine N.obl (flat_lim _ _) ?_ | with_reducible refine N.eq ?_ | with_reducible refine N.obl rfl ?_ | with_reducible refine N.obl ⟨by kernel_rfl, by kernel_rfl⟩ ?_ | with_reducible refine N.forkT ?_ | with_reducible refine N.forkF ?_ | fail_if_success skip)
  refine N.go ?_
  refine N.loop (α := Nat) (fun x => x ≤ l ∧ v < bw x) (fun x => x) (fun x => [(0, .slice (some ⟨0, 0, some 0⟩) x m)]) (fun _ => []) l ⟨Nat.le_refl _, hv⟩ ?_ ?_
  · repeat (refine N.go ?_; first | exact N.true | with_reducible refine N.obl rfl ?_ | with_reducible refine N.obl (ChunkLe.refl _) ?_ | refine N.obl (int_i64 (by rw [IntWalk.i64_in _ (by omega)]; rfl)) ?_ |  fail_if_success skip)
  · intro x hx
    obtain ⟨x1, x2⟩ := hx
    rcases Nat.eq_zero_or_pos x with rfl | hp
    · have hv0 : v = 0 := by rw [bw_zero] at x2; omega
      subst hv0
      repeat' (refine N.go ?_; first | with_reducible refine N.obl (by decide) ?_ | with_reducible refine N.obl (flat_wi _ _ _) ?_ | with_reducible refine N.obl (flat_lim _ _) ?_ | with_reducible refine N.eq ?_ | with_reducible refine N.obl rfl ?_ | with_reducible refine N.obl ⟨by kernel_rfl, by kernel_rfl⟩ ?_ | with_reducible refine N.forkT ?_ | with_reducible refine N.forkF ?_ | refine N.forkNo (by decide) ?_ | refine N.forkYes (by decide) ?_ | refine N.obl (re_sl (by rfl) nl_zero) ?_ | refine N.obl trivial ?_ | exact N.true | fail_if_success skip)
    · obtain ⟨y, rfl⟩ : ∃ y, x = y + 1 := ⟨x - 1, by omega⟩
      have e1 : IntKind.i64.wrap (((y + 1 : Nat) : Int) - 1) = (y : Int) := by rw [i64n _ (by omega) (by omega)]; omega
      by_cases h0 : lm v y = 0
      · have x3 := (trim_word x2).1 h0
        repeat' (refine N.go ?_; first | with_reducible refine N.obl (by decide) ?_ | with_reducible refine N.obl (flat_wi _ _ _) ?_ | with_reducible refine N.obl (flat_lim _ _) ?_ | with_reducible refine N.eq ?_ | with_reducible refine N.obl rfl ?_ | with_reducible refine N.obl ⟨by kernel_rfl, by kernel_rfl⟩ ?_ | with_reducible refine N.forkT ?_ | with_reducible refine N.forkF ?_ | refine N.idx y 1 e1 (by omega) ?_ | refine N.load _ (reads_num (p := y) (by omega) (by omega)) ?_ | refine N.forkYes (by rw [h0]; rfl) ?_ | refine N.forkYes (by rw [decide_eq_true_eq]; omega) ?_ | refine N.bnd 0 y 0 ⟨e1, by omega⟩ rfl ?_ | fail_if_success skip)
        refine N.go ?_
        refine N.next y ⟨⟨by omega, x3⟩, by omega⟩ ?_
        repeat (refine N.go ?_; first | exact N.true | with_reducible refine N.obl rfl ?_ | with_reducible refine N.obl (ChunkLe.refl _) ?_ | refine N.obl (int_i64 (by rw [IntWalk.i64_in _ (by omega)]; rfl)) ?_ | refine N.obl (sl_cut rfl) ?_ |  fail_if_success skip)
      · have x3 : nl v = y + 1 := nl_eq x2 (by rcases Nat.lt_or_ge v (bw y) with h | h; exact absurd (lm_big h) h0; exact h)
        repeat' (refine N.go ?_; first | with_reducible refine N.obl (by decide) ?_ | with_reducible refine N.obl (flat_wi _ _ _) ?_ | with_reducible refine N.obl (flat_lim _ _) ?_ | with_reducible refine N.eq ?_ | with_reducible refine N.obl rfl ?_ | with_reducible refine N.obl ⟨by kernel_rfl, by kernel_rfl⟩ ?_ | with_reducible refine N.forkT ?_ | with_reducible refine N.forkF ?_ | refine N.idx y 1 e1 (by omega) ?_ | refine N.load _ (reads_num (p := y) (by omega) (by omega)) ?_ | refine N.forkNo (by rw [beq_eq_false_iff_ne]; omega) ?_ | refine N.forkYes (by rw [decide_eq_true_eq]; omega) ?_ | refine N.obl (re_sl (by rfl) x3) ?_ | refine N.obl trivial ?_ | exact N.true | fail_if_success skip)
/-- How many bits a word has. -/
def bn : Nat → Nat
  | 0 => 0
  | v + 1 => bn ((v + 1) / 2) + 1
decreasing_by exact Nat.div_lt_self (by omega) (by decide)
theorem bn_zero : bn 0 = 0 := by unfold bn; rfl
theorem bn_pos {v : Nat} (h : 0 < v) : bn v = bn (v / 2) + 1 := by
  obtain ⟨u, rfl⟩ : ∃ u, v = u + 1 := ⟨v - 1, by omega⟩
  rw [bn]
theorem bn_le : ∀ (n v : Nat), v < 2 ^ n → bn v ≤ n
  | 0, v, h => by
    obtain rfl : v = 0 := by simpa using h
    rw [bn_zero]; exact Nat.le_refl _
  | n + 1, v, h => by
    rcases Nat.eq_zero_or_pos v with rfl | hv
    · rw [bn_zero]; exact Nat.zero_le _
    · rw [bn_pos hv]
      have := bn_le n (v / 2) (by rw [Nat.pow_succ] at h; omega)
      omega
theorem fd1 (n : Nat) : ((n : Nat) : Int).fdiv (2 ^ sh 1 IntKind.u32) = ((n / 2 : Nat) : Int) := by
  rw [show sh 1 IntKind.u32 = 1 from by decide, Int.fdiv_eq_ediv_of_nonneg _ (by decide)]; omega
theorem fd32 (n : Nat) : ((n : Nat) : Int).fdiv (2 ^ sh 32 IntKind.u64) = ((n / 4294967296 : Nat) : Int) := by
  rw [show sh 32 IntKind.u64 = 32 from by decide, Int.fdiv_eq_ediv_of_nonneg _ (by decide)]; omega
def bitn (v : Nat) : Nat := if v = 0 then 0 else 32 * (nl v - 1) + bn (lm v (nl v - 1))
theorem bitn_le (v : Nat) : bitn v ≤ 32 * nl v := by
  unfold bitn
  split
  · exact Nat.zero_le _
  · rename_i h
    have h0 : nl v ≠ 0 := fun e => h (nl_zero_iff.1 e)
    have := bn_le 32 (lm v (nl v - 1)) (lm_lt v _)
    omega
set_option maxRecDepth 100000 in
set_option maxHeartbeats 2000000 in
theorem cBits32 (v m i : Nat) (o : Chunk) (h : List (Option Chunk)) (hi : h[i]? = some (some o)) (hin : IsNum o m v) (hl : nl v ≤ m) (hm : m ≤ 1000000) :
    CallOK Try.prog 38 [.slice (some ⟨i, 0, some 0⟩) (nl v) m] h (.int .i64 (bitn v : Nat)) [] [i] := by
  refine call_sub (G := tys) [⟨i, _, numC false m v, ⟨false, 0, []⟩⟩] [] [.slice (some ⟨0, 0, some 0⟩) (nl v) m] tysOK mixed Try.func38 (by rfl) (Try.call38) ⟨hi, trivial⟩ ⟨⟨fun h => (by cases h), Nat.le_of_eq hin.1.symm, num_re hin⟩, trivial⟩ (by simp [Apart]) trivial ⟨.slice rfl, trivial⟩ ?_
  rcases Nat.eq_zero_or_pos v with rfl | hp
  · rw [nl_zero]
    repeat' (refine N.go ?_; first | with_reducible refine N.obl (by decide) ?_ | with_reducible refine N.obl (flat_wi _ _ _) ?_ | with_reducible refine N.obl (flat_lim _ _) ?_ | with_reducible refine N.eq ?_ | with_reducible refine N.obl rfl ?_ | with_reducible refine N.obl ⟨by kernel_rfl, by kernel_rfl⟩ ?_ | with_reducible refine N.forkT ?_ | with_reducible refine N.forkF ?_ | refine N.forkNo (by decide) ?_ | refine N.forkYes (by decide) ?_ | refine N.obl (re_eqn (inteq (by decide)) rfl) ?_ | refine N.obl trivial ?_ | exact N.true | fail_if_success skip)
  · have h0 : nl v ≠ 0 := fun e => by have := nl_zero_iff.1 e; omega
    have hbv : bitn v = 32 * (nl v - 1) + bn (lm v (nl v - 1)) := by unfold bitn; rw [if_neg (by omega)]
    have htop := lm_lt v (nl v - 1)
    obtain ⟨y, hy⟩ : ∃ y, nl v = y + 1 := ⟨nl v - 1, by omega⟩
    rw [hy] at hbv htop
    rw [show y + 1 - 1 = y from by omega] at hbv htop
    rw [hbv, hy]
    rw [hy] at hl
    generalize hT : lm v y = T at *
    have hbT := bn_le 32 T htop
    have e1 : IntKind.i64.wrap (((y + 1 : Nat) : Int) - 1) = (y : Int) := by rw [i64n _ (by omega) (by omega)]; omega
    repeat' (refine N.go ?_; first | with_reducible refine N.obl (by decide) ?_ | with_reducible refine N.obl (flat_wi _ _ _) ?_ | with_reducible refine N.obl (flat_lim _ _) ?_ | with_reducible refine N.eq ?_ | with_reducible refine N.obl rfl ?_ | with_reducible refine N.obl ⟨by kernel_rfl, by kernel_rfl⟩ ?_ | with_reducible refine N.forkT ?_ | with_reducible refine N.forkF ?_ | refine N.forkNo (by rw [beq_eq_false_iff_ne]; omega) ?_ | refine N.idx y 1 e1 (by omega) ?_ | refine N.load _ (reads_num (p := y) (by omega) (by omega)) ?_ | fail_if_success skip)
    refine N.go ?_
    refine N.loop (α := Nat) (fun x => x < 4294967296 ∧ bn x ≤ bn T) (fun x => x) (fun x => [(3, .int .i64 ((32 * y + (bn T - bn x) : Nat) : Int)), (4, .int .u32 (x : Int))]) (fun _ => []) T ⟨htop, Nat.le_refl _⟩ ?_ ?_
    · repeat (refine N.go ?_; first | exact N.true | with_reducible refine N.obl rfl ?_ | with_reducible refine N.obl (ChunkLe.refl _) ?_ | refine N.obl (int_i64 (by rw [IntWalk.i64_in _ (by omega)]; rfl)) ?_ | refine N.obl (inteq (by rw [e1, i64n _ (by omega) (by omega)]; omega)) ?_ | refine N.obl (inteq (by rw [hT])) ?_ |  fail_if_success skip)
    · intro x hx
      obtain ⟨x1, x2⟩ := hx
      rcases Nat.eq_zero_or_pos x with rfl | hp
      · repeat' (refine N.go ?_; first | with_reducible refine N.obl (by decide) ?_ | with_reducible refine N.obl (flat_wi _ _ _) ?_ | with_reducible refine N.obl (flat_lim _ _) ?_ | with_reducible refine N.eq ?_ | with_reducible refine N.obl rfl ?_ | with_reducible refine N.obl ⟨by kernel_rfl, by kernel_rfl⟩ ?_ | with_reducible refine N.forkT ?_ | with_reducible refine N.forkF ?_ | refine N.forkNo (by decide) ?_ | refine N.forkYes (by decide) ?_ | refine N.obl (re_eqn (inteq (by rw [bn_zero]; omega)) rfl) ?_ | refine N.obl trivial ?_ | exact N.true | fail_if_success skip)
      · have e2 := bn_pos hp
        repeat' (refine N.go ?_; first | with_reducible refine N.obl (by decide) ?_ | with_reducible refine N.obl (flat_wi _ _ _) ?_ | with_reducible refine N.obl (flat_lim _ _) ?_ | with_reducible refine N.eq ?_ | with_reducible refine N.obl rfl ?_ | with_reducible refine N.obl ⟨by kernel_rfl, by kernel_rfl⟩ ?_ | with_reducible refine N.forkT ?_ | with_reducible refine N.forkF ?_ | refine N.forkNo (by simp; omega) ?_ | refine N.forkYes (by simp; omega) ?_ | fail_if_success skip)
        refine N.go ?_
        refine N.next (x / 2) ⟨⟨by omega, by omega⟩, by omega⟩ ?_
        repeat (refine N.go ?_; first | exact N.true | with_reducible refine N.obl rfl ?_ | with_reducible refine N.obl (ChunkLe.refl _) ?_ | refine N.obl (int_i64 (by rw [IntWalk.i64_in _ (by omega)]; rfl)) ?_ | refine N.obl (inteq (fd1 x)) ?_ | refine N.obl (inteq (by rw [i64n _ (by omega) (by omega)]; omega)) ?_ |  fail_if_success skip)
theorem cmp_word {a b y : Nat} (h : a / bw (y + 1) = b / bw (y + 1)) : (lm a y < lm b y → a < b) ∧ (lm a y = lm b y → a / bw y = b / bw y) := by
  have h1 := up_word a y
  have h2 := up_word b y
  refine ⟨fun h3 => ?_, fun h3 => by omega⟩
  have h4 : a / bw y < b / bw y := by omega
  rcases Nat.lt_or_ge a b with h5 | h5
  · exact h5
  · have := Nat.div_le_div_right (c := bw y) h5; omega
theorem nl_lt {a b : Nat} (h : nl a < nl b) : a < b := by
  have h1 := nl_self a
  rcases Nat.lt_or_ge b (bw (nl a)) with h2 | h2
  · have := nl_le.2 h2; omega
  · omega
def cmpN (a b : Nat) : Int := if a < b then -1 else if a = b then 0 else 1
set_option maxRecDepth 100000 in
set_option maxHeartbeats 2000000 in
theorem cCmp (a b m q i j : Nat) (o o2 : Chunk) (h : List (Option Chunk)) (hi : h[i]? = some (some o)) (hin : IsNum o m a) (hj : h[j]? = some (some o2)) (hjn : IsNum o2 q b) (hl : nl a ≤ m) (hm : m ≤ 1000000) (hl2 : nl b ≤ q) (hq : q ≤ 1000000) :
    CallOK Try.prog 42 [.slice (some ⟨i, 0, some 0⟩) (nl a) m, .slice (some ⟨j, 0, some 0⟩) (nl b) q] h (.int .i64 (cmpN a b)) [] [i, j] := by
  refine call_sub (G := tys) [⟨i, _, numC false m a, ⟨false, 0, []⟩⟩, ⟨j, _, numC false q b, ⟨false, 0, []⟩⟩] [] [.slice (some ⟨0, 0, some 0⟩) (nl a) m, .slice (some ⟨1, 0, some 0⟩) (nl b) q] tysOK mixed Try.func42 (by rfl) (Try.call42) ⟨hi, hj, trivial⟩ ⟨⟨fun h => (by cases h), Nat.le_of_eq hin.1.symm, num_re hin⟩, ⟨fun h => (by cases h), Nat.le_of_eq hjn.1.symm, num_re hjn⟩, trivial⟩ (by simp [Apart]) trivial ⟨.slice rfl, .slice rfl, trivial⟩ ?_
  by_cases hne : nl a = nl b
  · repeat' (refine N.go ?_; first | with_reducible refine N.obl (by decide) ?_ | with_reducible refine N.obl (flat_wi _ _ _) ?_ | with_reducible refine N.obl (flat_lim _ _) ?_ | with_reducible refine N.eq ?_ | with_reducible refine N.obl rfl ?_ | with_reducible refine N.obl ⟨by kernel_rfl, by kernel_rfl⟩ ?_ | with_reducible refine N.forkT ?_ | with_reducible refine N.forkF ?_ | refine N.forkNo (by rw [hne]; simp) ?_ | fail_if_success skip)
    refine N.go ?_
    refine N.loop (α := Nat) (fun c => c ≤ nl a ∧ a / bw c = b / bw c) (fun x => x) (fun x => [(5, .int .i64 ((x : Int) - 1))]) (fun _ => []) (nl a) ⟨Nat.le_refl _, by rw [Nat.div_eq_of_lt (nl_self a), hne, Nat.div_eq_of_lt (nl_self b)]⟩ ?_ ?_
    · repeat (refine N.go ?_; first | exact N.true | with_reducible refine N.obl rfl ?_ | with_reducible refine N.obl (ChunkLe.refl _) ?_ | refine N.obl (int_i64 (by rw [IntWalk.i64_in _ (by omega)]; rfl)) ?_ | refine N.obl (inteq (by rw [i64n _ (by omega) (by omega)])) ?_ |  fail_if_success skip)
    · intro c hc
      obtain ⟨c1, c2⟩ := hc
      rcases Nat.eq_zero_or_pos c with rfl | hp
      · have he : a = b := by rw [bw_zero, Nat.div_one, Nat.div_one] at c2; exact c2
        have hr : cmpN a b = 0 := by unfold cmpN; rw [if_neg (by omega), if_pos he]
        repeat' (refine N.go ?_; first | with_reducible refine N.obl (by decide) ?_ | with_reducible refine N.obl (flat_wi _ _ _) ?_ | with_reducible refine N.obl (flat_lim _ _) ?_ | with_reducible refine N.eq ?_ | with_reducible refine N.obl rfl ?_ | with_reducible refine N.obl ⟨by kernel_rfl, by kernel_rfl⟩ ?_ | with_reducible refine N.forkT ?_ | with_reducible refine N.forkF ?_ | refine N.forkNo (by decide) ?_ | refine N.forkYes (by decide) ?_ | refine N.forkYes (by rw [decide_eq_true_eq]; omega) ?_ | refine N.forkNo (by rw [decide_eq_false_iff_not]; omega) ?_ | refine N.obl (re_eqn (inteq hr) rfl) ?_ | refine N.obl trivial ?_ | exact N.true | fail_if_success skip)
      · obtain ⟨y, rfl⟩ : ∃ y, c = y + 1 := ⟨c - 1, by omega⟩
        have e1 : (((y + 1 : Nat) : Int) - 1) = (y : Int) := by omega
        have cw := cmp_word c2
        have cw2 := (cmp_word c2.symm).1
        by_cases h1 : lm a y = lm b y
        · repeat' (refine N.go ?_; first | with_reducible refine N.obl (by decide) ?_ | with_reducible refine N.obl (flat_wi _ _ _) ?_ | with_reducible refine N.obl (flat_lim _ _) ?_ | with_reducible refine N.eq ?_ | with_reducible refine N.obl rfl ?_ | with_reducible refine N.obl ⟨by kernel_rfl, by kernel_rfl⟩ ?_ | with_reducible refine N.forkT ?_ | with_reducible refine N.forkF ?_ | refine N.idx y 1 e1 (by omega) ?_ | refine N.load _ (reads_num (p := y) (by omega) (by omega)) ?_ | refine N.forkYes (by rw [decide_eq_true_eq]; omega) ?_ | refine N.forkNo (by rw [decide_eq_false_iff_not]; omega) ?_ | refine N.forkNo (by rw [h1]; simp) ?_ | fail_if_success skip)
          refine N.go ?_
          refine N.next y ⟨⟨by omega, cw.2 h1⟩, by omega⟩ ?_
          repeat (refine N.go ?_; first | exact N.true | with_reducible refine N.obl rfl ?_ | with_reducible refine N.obl (ChunkLe.refl _) ?_ | refine N.obl (int_i64 (by rw [IntWalk.i64_in _ (by omega)]; rfl)) ?_ | refine N.obl (inteq (by rw [i64n _ (by omega) (by omega)]; omega)) ?_ |  fail_if_success skip)
        · rcases Nat.lt_or_ge (lm a y) (lm b y) with h2 | h2
          · have hr : cmpN a b = -1 := by unfold cmpN; rw [if_pos (cw.1 h2)]
            repeat' (refine N.go ?_; first | with_reducible refine N.obl (by decide) ?_ | with_reducible refine N.obl (flat_wi _ _ _) ?_ | with_reducible refine N.obl (flat_lim _ _) ?_ | with_reducible refine N.eq ?_ | with_reducible refine N.obl rfl ?_ | with_reducible refine N.obl ⟨by kernel_rfl, by kernel_rfl⟩ ?_ | with_reducible refine N.forkT ?_ | with_reducible refine N.forkF ?_ | refine N.idx y 1 e1 (by omega) ?_ | refine N.load _ (reads_num (p := y) (by omega) (by omega)) ?_ | refine N.forkYes (by rw [decide_eq_true_eq]; omega) ?_ | refine N.forkNo (by rw [decide_eq_false_iff_not]; omega) ?_ | refine N.forkYes (by simp; omega) ?_ | refine N.forkNo (by simp; omega) ?_ | refine N.obl (re_eqn (inteq hr) rfl) ?_ | refine N.obl trivial ?_ | exact N.true | fail_if_success skip)
          · have := cw2 (by omega)
            have hr : cmpN a b = 1 := by unfold cmpN; rw [if_neg (by omega), if_neg (by omega)]
            repeat' (refine N.go ?_; first | with_reducible refine N.obl (by decide) ?_ | with_reducible refine N.obl (flat_wi _ _ _) ?_ | with_reducible refine N.obl (flat_lim _ _) ?_ | with_reducible refine N.eq ?_ | with_reducible refine N.obl rfl ?_ | with_reducible refine N.obl ⟨by kernel_rfl, by kernel_rfl⟩ ?_ | with_reducible refine N.forkT ?_ | with_reducible refine N.forkF ?_ | refine N.idx y 1 e1 (by omega) ?_ | refine N.load _ (reads_num (p := y) (by omega) (by omega)) ?_ | refine N.forkYes (by rw [decide_eq_true_eq]; omega) ?_ | refine N.forkNo (by rw [decide_eq_false_iff_not]; omega) ?_ | refine N.forkYes (by simp; omega) ?_ | refine N.forkNo (by simp; omega) ?_ | refine N.obl (re_eqn (inteq hr) rfl) ?_ | refine N.obl trivial ?_ | exact N.true | fail_if_success skip)
  · rcases Nat.lt_or_ge (nl a) (nl b) with h2 | h2
    · have := nl_lt h2
      have hr : cmpN a b = -1 := by unfold cmpN; rw [if_pos (by omega)]
      repeat' (refine N.go ?_; first | with_reducible refine N.obl (by decide) ?_ | with_reducible refine N.obl (flat_wi _ _ _) ?_ | with_reducible refine N.obl (flat_lim _ _) ?_ | with_reducible refine N.eq ?_ | with_reducible refine N.obl rfl ?_ | with_reducible refine N.obl ⟨by kernel_rfl, by kernel_rfl⟩ ?_ | with_reducible refine N.forkT ?_ | with_reducible refine N.forkF ?_ | refine N.forkYes (by rw [decide_eq_true_eq]; omega) ?_ | refine N.forkNo (by rw [decide_eq_false_iff_not]; omega) ?_ | refine N.forkYes (by simp; omega) ?_ | refine N.forkNo (by simp; omega) ?_ | refine N.obl (re_eqn (inteq hr) rfl) ?_ | refine N.obl trivial ?_ | exact N.true | fail_if_success skip)
    · have := nl_lt (show nl b < nl a by omega)
      have hr : cmpN a b = 1 := by unfold cmpN; rw [if_neg (by omega), if_neg (by omega)]
      repeat' (refine N.go ?_; first | with_reducible refine N.obl (by decide) ?_ | with_reducible refine N.obl (flat_wi _ _ _) ?_ | with_reducible refine N.obl (flat_lim _ _) ?_ | with_reducible refine N.eq ?_ | with_reducible refine N.obl rfl ?_ | with_reducible refine N.obl ⟨by kernel_rfl, by kernel_rfl⟩ ?_ | with_reducible refine N.forkT ?_ | with_reducible refine N.forkF ?_ | refine N.forkYes (by rw [decide_eq_true_eq]; omega) ?_ | refine N.forkNo (by rw [decide_eq_false_iff_not]; omega) ?_ | refine N.forkYes (by simp; omega) ?_ | refine N.forkNo (by simp; omega) ?_ | refine N.obl (re_eqn (inteq hr) rfl) ?_ | refine N.obl trivial ?_ | exact N.true | fail_if_success skip)
end Go.Proofs.Ytkjeebabcdnjkaa
