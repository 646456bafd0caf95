import Derived.Lib.EndianBits
import Derived.Test.YtchfbblpflcniaaM3

/-
  The walks of the document's numbers: plus, minus, times at any length.
-/
set_option linter.unusedVariables false
set_option linter.unusedSimpArgs false
namespace Go.Proofs.Ytchfbblpflcniaa
open Go Go.RowKit Sx

theorem lm_mix (p q k j : Nat) : lm (p % bw k + q / bw k * bw k) j = if j < k then lm p j else lm q j := by
  by_cases h : j < k
  · rw [if_pos h, lm_add _ h, lm_mod h]
  · rw [if_neg h]
    have h1 : lm (p % bw k + q / bw k * bw k) j = lm (q / bw k * bw k) j := by
      unfold lm
      obtain ⟨d, rfl⟩ : ∃ d, j = k + d := ⟨j - k, by omega⟩
      rw [bw_add, ← Nat.div_div_eq_div_mul, ← Nat.div_div_eq_div_mul, Nat.add_mul_div_right _ _ (bw_pos k), Nat.div_eq_of_lt (Nat.mod_lt _ (bw_pos k)), Nat.zero_add, Nat.mul_div_cancel _ (bw_pos k)]
    rw [h1, lm_down, if_pos (by omega)]
/-- The words below k are p's, those above q's; the next one of p' is written. -/
theorem writes_mix {m p p' q k r : Nat} {x : Int} (e : r = k) (h : k < m) (hx : x = ((lm p' k : Nat) : Int)) (hp : p' % bw k = p % bw k) : Writes (numC true m (p % bw k + q / bw k * bw k)) r 1 (.int .u32 x) (numC true m (p' % bw (k + 1) + q / bw (k + 1) * bw (k + 1))) := by
  subst e hx
  refine ⟨rfl, by show r + 1 ≤ m; omega, rfl, fun j hj => ?_⟩
  have hj : j < m := hj
  rw [seg_cell hj, seg_cell hj, lm_mix, lm_mix]
  rcases Nat.lt_trichotomy j r with h1 | h1 | h1
  · rw [if_neg (show ¬ (r ≤ j ∧ j < r + 1) by omega), if_pos (show j < r + 1 by omega), if_pos h1, ← lm_mod h1, hp, lm_mod h1]
  · subst h1; rw [if_pos (show j ≤ j ∧ j < j + 1 by omega), if_pos (show j < j + 1 by omega), Nat.sub_self]; rfl
  · rw [if_neg (show ¬ (r ≤ j ∧ j < r + 1) by omega), if_neg (show ¬ j < r + 1 by omega), if_neg (show ¬ j < r by omega)]
theorem mul_nl2 (a b : Nat) : a * b < bw (nl a + nl b) ∨ a * b = 0 := by
  rcases Nat.eq_zero_or_pos (a * b) with h | h
  · exact .inr h
  · left
    rw [bw_add]
    have ha := nl_self a
    have hb := nl_self b
    have hb0 : 0 < b := Nat.pos_of_ne_zero fun e => by rw [e, Nat.mul_zero] at h; omega
    exact Nat.lt_of_lt_of_le (Nat.mul_lt_mul_of_pos_right ha hb0) (Nat.mul_le_mul_left _ (Nat.le_of_lt hb))
theorem mul_nl3 (a b : Nat) : a * b < bw (nl a + nl b) := by
  rcases mul_nl2 a b with h | h
  · exact h
  · rw [h]; exact bw_pos _
/-- One word of a row of a product: S is what the rows before came to, C the carry. -/
theorem row_word (S x b i j C : Nat) (hx : x < 4294967296) (hC : C < 4294967296) (h : (S + x * (b % bw j) * bw i) / bw (i + j) = C + S / bw (i + j)) :
    lm (S + x * (b % bw (j + 1)) * bw i) (i + j) = (C + (x * lm b j + lm S (i + j))) % 4294967296 ∧
    (S + x * (b % bw (j + 1)) * bw i) / bw (i + j + 1) = (C + (x * lm b j + lm S (i + j))) / 4294967296 + S / bw (i + j + 1) ∧
    C + (x * lm b j + lm S (i + j)) < 18446744073709551616 ∧ (C + (x * lm b j + lm S (i + j))) / 4294967296 < 4294967296 ∧
    (S + x * (b % bw (j + 1)) * bw i) % bw (i + j) = (S + x * (b % bw j) * bw i) % bw (i + j) := by
  have hb := lm_lt b j
  have hS := lm_lt S (i + j)
  have hxy : x * lm b j ≤ 4294967295 * 4294967295 := Nat.mul_le_mul (by omega) (by omega)
  have hV : S + x * (b % bw (j + 1)) * bw i = (S + x * (b % bw j) * bw i) + x * lm b j * bw (i + j) := by
    rw [low_word, Nat.mul_add, Nat.add_mul, bw_add, Nat.mul_comm (bw i) (bw j), ← Nat.mul_assoc, ← Nat.mul_assoc, Nat.add_assoc]
  have hd : (S + x * (b % bw (j + 1)) * bw i) / bw (i + j) = (C + (x * lm b j + lm S (i + j))) + S / bw (i + j + 1) * 4294967296 := by
    rw [hV, Nat.add_mul_div_right _ _ (bw_pos _), h, up_word S (i + j)]; omega
  refine ⟨?_, ?_, by omega, by omega, ?_⟩
  · show (S + x * (b % bw (j + 1)) * bw i) / bw (i + j) % 4294967296 = _
    rw [hd, Nat.add_mul_mod_self_right]
  · rw [bw_succ (i + j), ← Nat.div_div_eq_div_mul, hd, Nat.add_mul_div_right _ _ (by decide), ← bw_succ]
  · rw [hV, Nat.add_mul_mod_self_right]
/-- One word of a difference. -/
def brw (a b i : Nat) : Int := if a % bw i < b % bw i then -1 else 0
theorem sub_word (a b i : Nat) (h : b ≤ a) : ((brw a b i + (lm a i : Nat)) - (lm b i : Nat)) % 4294967296 = (lm (a - b) i : Nat) ∧ ((brw a b i + (lm a i : Nat)) - (lm b i : Nat)).fdiv 4294967296 = brw a b (i + 1) ∧ -1 ≤ brw a b i ∧ brw a b i ≤ 0 := by
  have hD := bw_pos i
  have ha := Nat.div_add_mod a (bw i)
  have hb := Nat.div_add_mod b (bw i)
  have hA := Nat.mod_lt a hD
  have hB := Nat.mod_lt b hD
  have hqq : ∀ {x y : Nat}, x < y → bw i * x + bw i ≤ bw i * y := fun {x y} hxy => by
    have := Nat.mul_le_mul_left (bw i) (show x + 1 ≤ y by omega)
    rwa [Nat.mul_add, Nat.mul_one] at this
  have key : (((a - b) / bw i : Nat) : Int) = brw a b i + ((a / bw i : Nat) : Int) - ((b / bw i : Nat) : Int) := by
    unfold brw
    generalize a / bw i = qa at *
    generalize b / bw i = qb at *
    generalize a % bw i = A at *
    generalize b % bw i = B at *
    by_cases hlt : A < B
    · rw [if_pos hlt]
      have hq : qb < qa := by
        refine Nat.lt_of_not_le fun hle => ?_
        have : bw i * qa ≤ bw i * qb := Nat.mul_le_mul_left _ hle
        omega
      have e : a - b = (bw i + A - B) + (qa - qb - 1) * bw i := by
        obtain ⟨d, rfl⟩ : ∃ d, qa = qb + 1 + d := ⟨qa - (qb + 1), by omega⟩
        rw [show qb + 1 + d - qb - 1 = d from by omega, Nat.mul_comm d]
        rw [Nat.mul_add, Nat.mul_add, Nat.mul_one] at ha
        omega
      rw [e, Nat.add_mul_div_right _ _ hD, Nat.div_eq_of_lt (by omega)]
      omega
    · rw [if_neg hlt]
      have hq : qb ≤ qa := by
        refine Nat.le_of_not_lt fun hle => ?_
        have := hqq hle
        omega
      have e : a - b = (A - B) + (qa - qb) * bw i := by
        obtain ⟨d, rfl⟩ : ∃ d, qa = qb + d := ⟨qa - qb, by omega⟩
        rw [show qb + d - qb = d from by omega, Nat.mul_comm d]
        rw [Nat.mul_add] at ha
        omega
      rw [e, Nat.add_mul_div_right _ _ hD, Nat.div_eq_of_lt (by omega)]
      omega
  have hb1 : -1 ≤ brw a b i ∧ brw a b i ≤ 0 := by unfold brw; split <;> omega
  have hx := lm_lt a i
  have hy := lm_lt b i
  refine ⟨?_, ?_, hb1.1, hb1.2⟩
  · unfold lm at hx hy ⊢
    omega
  · have h1 : brw a b (i + 1) = if a % bw i + lm a i * bw i < b % bw i + lm b i * bw i then -1 else 0 := by
      unfold brw; rw [low_word, low_word]
    rw [h1]
    unfold brw at hb1 ⊢
    generalize a % bw i = A at *
    generalize b % bw i = B at *
    generalize lm a i = x at *
    generalize lm b i = y at *
    have hf : ∀ z : Int, z.fdiv 4294967296 = z / 4294967296 := fun z => Int.fdiv_eq_ediv_of_nonneg _ (by decide)
    rw [hf]
    rcases Nat.lt_trichotomy x y with hxy | hxy | hxy
    · have := hqq hxy
      rw [if_pos (show A + x * bw i < B + y * bw i by rw [Nat.mul_comm x, Nat.mul_comm y]; omega)]
      split <;> omega
    · subst hxy
      by_cases hlt : A < B
      · rw [if_pos hlt, if_pos (by omega)]; omega
      · rw [if_neg hlt, if_neg (by omega)]; omega
    · have := hqq hxy
      rw [if_neg (show ¬ A + x * bw i < B + y * bw i by rw [Nat.mul_comm x, Nat.mul_comm y]; omega)]
      split <;> omega
set_option maxRecDepth 100000 in
set_option maxHeartbeats 2000000 in
theorem cTimesN (a b m q i j K : Nat) (o o2 : Chunk) (h : List (Option Chunk)) (hi : h[i]? = some (some o)) (hin : IsNum o m a) (hj : h[j]? = some (some o2)) (hjn : IsNum o2 q b) (hl : nl a ≤ m) (hm : m ≤ 31) (hl2 : nl b ≤ q) (hq : q ≤ 31) (hp : 0 < nl a + nl b) (h0 : h[K]? = some none) :
    CallOK Try.prog 82 [.slice (some ⟨i, 0, some 0⟩) (nl a) m, .slice (some ⟨j, 0, some 0⟩) (nl b) q] h (.slice (some ⟨K, 0, some 0⟩) (nl (a * b)) (nl a + nl b)) [(K, numC true (nl a + nl b) (a * b))] [i, j] := by
  have hab := mul_nl3 a b
  refine call_sub (G := tys) [⟨i, _, numC false m a, ⟨false, 0, []⟩⟩, ⟨j, _, numC false q b, ⟨false, 0, []⟩⟩] [⟨K, 10, numC true (nl a + nl b) (a * b)⟩] [.slice (some ⟨0, 0, some 0⟩) (nl a) m, .slice (some ⟨1, 0, some 0⟩) (nl b) q] tysOK mixed Try.func82 (by rfl) (Try.call82) ⟨hi, hj, trivial⟩ ⟨⟨fun h => (by cases h), Nat.le_of_eq hin.1.symm, num_re hin⟩, ⟨fun h => (by cases h), Nat.le_of_eq hjn.1.symm, num_re hjn⟩, trivial⟩ (by simp [Apart]) ⟨⟨h0, rfl, by show 0 < nl a + nl b; exact hp, by simp⟩, trivial⟩ ⟨.slice rfl, .slice rfl, trivial⟩ ?_
  repeat' (refine N.go ?_; first | with_reducible (first | refine N.obl (by decide) ?_ | refine N.eq ?_ | refine N.obl rfl ?_ | refine N.obl ⟨by kernel_rfl, by kernel_rfl⟩ ?_ | refine N.alt ?_ | refine N.forkT ?_ | refine N.forkF ?_) | refine MakeN.mk1 (nl a + nl b) (nl a + nl b) (by rw [i64n _ (by omega) (by omega)]; rfl) (by rw [i64n _ (by omega) (by omega)]; rfl) (by show 4 * (nl a + nl b) ≤ _; omega) (by omega) (Nat.mul_one _).symm ?_ | refine N.forkNo (by decide) ?_ | refine N.forkYes (by decide) ?_ | refine N.forkYes (by rw [decide_eq_true_eq]; omega) ?_ | refine N.forkNo (by rw [decide_eq_false_iff_not]; omega) ?_ | refine N.obl trivial ?_ | exact N.true | fail)
  refine N.go ?_
  refine N.loop (α := Nat) (fun i => i ≤ nl a) (fun i => nl a - i) (fun i => [(19, .int .i64 (i : Int))]) (fun i => [(10, numC true (nl a + nl b) (a % bw i * b))]) 0 (Nat.zero_le _) ?_ ?_
  · repeat (refine N.go ?_; first | exact N.true | with_reducible (first | refine N.obl rfl ?_ | refine N.obl (ChunkLe.refl _) ?_) | refine N.obl (int_i64 (by rw [IntWalk.i64_in _ (by omega)]; rfl)) ?_ | refine N.obl (by rw [bw_zero, Nat.mod_one, Nat.zero_mul]; exact zeros_num) ?_ |  fail_if_success skip)
  · intro i hi'
    have hi' : i ≤ nl a := hi'
    rcases Nat.lt_or_ge i (nl a) with hlt | hge
    · have hx := lm_lt a i
      have hSlt : a % bw i * b < bw (i + nl b) := by
        rw [bw_add]
        rcases Nat.eq_zero_or_pos b with e | e
        · subst e; rw [Nat.mul_zero]; exact Nat.mul_pos (bw_pos _) (bw_pos _)
        · exact Nat.lt_of_lt_of_le (Nat.mul_lt_mul_of_pos_right (Nat.mod_lt _ (bw_pos i)) e) (Nat.mul_le_mul_left _ (Nat.le_of_lt (nl_self b)))
      have hV : a % bw (i + 1) * b = a % bw i * b + lm a i * (b % bw (nl b)) * bw i := by
        rw [low_word, Nat.add_mul, Nat.mod_eq_of_lt (nl_self b), Nat.mul_right_comm]
      have hVlt : a % bw (i + 1) * b < bw (i + nl b + 1) := by
        have hbb := bw_add (i + 1) (nl b)
        rw [show i + nl b + 1 = (i + 1) + nl b from by omega, hbb]
        rcases Nat.eq_zero_or_pos b with e | e
        · rw [e, Nat.mul_zero]; exact Nat.mul_pos (bw_pos _) (bw_pos _)
        · exact Nat.lt_of_lt_of_le (Nat.mul_lt_mul_of_pos_right (Nat.mod_lt _ (bw_pos _)) e) (Nat.mul_le_mul_left _ (Nat.le_of_lt (nl_self b)))
      generalize hS : a % bw i * b = S at *
      generalize hX : lm a i = x at *
      repeat' (refine N.go ?_; first | with_reducible (first | refine N.obl (by decide) ?_ | refine N.eq ?_ | refine N.obl rfl ?_ | refine N.obl ⟨by kernel_rfl, by kernel_rfl⟩ ?_ | refine N.alt ?_ | refine N.forkT ?_ | refine N.forkF ?_) | refine N.idx i 1 (by first | rfl | exact i64n _ (by omega) (by omega) | (rw [i64n _ (by omega) (by omega)]; omega)) (by omega) ?_ | refine N.load (.int .u32 ((x : Nat) : Int)) (by rw [← hX]; exact reads_num (p := i) (by omega) (by omega)) ?_ | refine N.forkNo (by decide) ?_ | refine N.forkYes (by decide) ?_ | refine N.forkYes (by rw [decide_eq_true_eq]; omega) ?_ | refine N.forkNo (by rw [decide_eq_false_iff_not]; omega) ?_ | refine N.obl trivial ?_ | exact N.true | fail)
      refine N.go ?_
      refine N.loop (α := Nat × Nat) (fun s => s.1 ≤ nl b ∧ s.2 < 4294967296 ∧ (S + x * (b % bw s.1) * bw i) / bw (i + s.1) = s.2 + S / bw (i + s.1)) (fun s => nl b - s.1) (fun s => [(26, .int .i64 (s.1 : Int)), (8, .int .u64 (s.2 : Int))]) (fun s => [(10, numC true (nl a + nl b) ((S + x * (b % bw s.1) * bw i) % bw (i + s.1) + S / bw (i + s.1) * bw (i + s.1)))]) (0, 0) ⟨Nat.zero_le _, by decide, by rw [bw_zero, Nat.mod_one, Nat.mul_zero, Nat.zero_mul, Nat.add_zero, Nat.zero_add]⟩ ?_ ?_
      · repeat (refine N.go ?_; first | exact N.true | with_reducible (first | refine N.obl rfl ?_ | refine N.obl (ChunkLe.refl _) ?_) | refine N.obl (int_i64 (by rw [IntWalk.i64_in _ (by omega)]; rfl)) ?_ | refine N.obl (by rw [bw_zero, Nat.mod_one, Nat.mul_zero, Nat.zero_mul, Nat.add_zero, Nat.add_zero, Nat.mod_add_div' ]; exact ChunkLe.refl _) ?_ |  fail_if_success skip)
      · rintro ⟨j, C⟩ ⟨hj', hC, hrel⟩
        have hj' : j ≤ nl b := hj'
        have hC : C < 4294967296 := hC
        have hrel : (S + x * (b % bw j) * bw i) / bw (i + j) = C + S / bw (i + j) := hrel
        rcases Nat.lt_or_ge j (nl b) with hjl | hjg
        · obtain ⟨m1, m2, m3, m4, m5⟩ := row_word S x b i j C hx hC hrel
          have hy := lm_lt b j
          have hz := lm_lt S (i + j)
          have hold : lm ((S + x * (b % bw j) * bw i) % bw (i + j) + S / bw (i + j) * bw (i + j)) (i + j) = lm S (i + j) := by rw [lm_mix, if_neg (Nat.lt_irrefl _)]
          have hxy : x * lm b j ≤ 4294967295 * 4294967295 := Nat.mul_le_mul (by omega) (by omega)
          have ev : IntKind.u64.wrap ((C : Int) + IntKind.u64.wrap (IntKind.u64.wrap (IntKind.u64.wrap ((x : Nat) : Int) * IntKind.u64.wrap ((lm b j : Nat) : Int)) + IntKind.u64.wrap ((lm ((S + x * (b % bw j) * bw i) % bw (i + j) + S / bw (i + j) * bw (i + j)) (i + j) : Nat) : Int))) = ((C + (x * lm b j + lm S (i + j)) : Nat) : Int) := by
            rw [hold, w64 (n := x) (by omega), w64 (n := lm b j) (by omega), w64 (n := lm S (i + j)) (by omega), ← Int.natCast_mul, w64 (n := x * lm b j) (by omega), ← Int.natCast_add, w64 (n := x * lm b j + lm S (i + j)) (by omega), ← Int.natCast_add, w64 m3]
          generalize hT : C + (x * lm b j + lm S (i + j)) = T at *
          repeat' (refine N.go ?_; first | with_reducible (first | refine N.obl (by decide) ?_ | refine N.eq ?_ | refine N.obl rfl ?_ | refine N.obl ⟨by kernel_rfl, by kernel_rfl⟩ ?_ | refine N.alt ?_ | refine N.forkT ?_ | refine N.forkF ?_) | refine N.idx j 1 (by first | rfl | exact i64n _ (by omega) (by omega) | (rw [i64n _ (by omega) (by omega)]; omega)) (by omega) ?_ | refine N.load _ (reads_num (p := j) (by omega) (by omega)) ?_ | refine N.idx (i + j) 1 (by first | rfl | exact i64n _ (by omega) (by omega) | (rw [i64n _ (by omega) (by omega)]; omega)) (by omega) ?_ | refine N.load _ (reads_num (p := i + j) (by omega) (by omega)) ?_ | refine N.store _ (writes_mix (p' := S + x * (b % bw (j + 1)) * bw i) (by omega) (by omega) (by rw [ev, w32, m1]) m5) ?_ | refine N.forkNo (by decide) ?_ | refine N.forkYes (by decide) ?_ | refine N.forkYes (by rw [decide_eq_true_eq]; omega) ?_ | refine N.forkNo (by rw [decide_eq_false_iff_not]; omega) ?_ | refine N.obl trivial ?_ | exact N.true | fail)
          refine N.go ?_
          refine N.next ((j + 1, T / 4294967296) : Nat × Nat) ⟨⟨by show j + 1 ≤ nl b; omega, m4, m2⟩, by show nl b - (j + 1) < nl b - j; omega⟩ ?_
          repeat (refine N.go ?_; first | exact N.true | with_reducible (first | refine N.obl rfl ?_ | refine N.obl (ChunkLe.refl _) ?_) | refine N.obl (int_i64 (by rw [IntWalk.i64_in _ (by omega)]; rfl)) ?_ | refine N.obl (inteq (by rw [i64n _ (by omega) (by omega)]; rfl)) ?_ | refine N.obl (inteq (by rw [ev, fd32])) ?_ |  fail_if_success skip)
        · obtain rfl : j = nl b := by omega
          have hq0 : S / bw (i + nl b) = 0 := Nat.div_eq_of_lt hSlt
          have hCe : (C : Int) = ((lm (a % bw (i + 1) * b) (i + nl b) : Nat) : Int) := by
            rw [hq0, Nat.add_zero, ← hV] at hrel
            unfold lm; rw [hrel, Nat.mod_eq_of_lt hC]
          have hch : (S + x * (b % bw (nl b)) * bw i) % bw (i + nl b) + S / bw (i + nl b) * bw (i + nl b) = (a % bw (i + 1) * b) % bw (i + nl b) := by rw [hq0, Nat.zero_mul, Nat.add_zero, ← hV]
          have hme : a % bw (i + 1) * b = a % bw (i + 1) * b % bw (i + nl b + 1) := (Nat.mod_eq_of_lt hVlt).symm
          rw [hch]
          repeat' (refine N.go ?_; first | with_reducible (first | refine N.obl (by decide) ?_ | refine N.eq ?_ | refine N.obl rfl ?_ | refine N.obl ⟨by kernel_rfl, by kernel_rfl⟩ ?_ | refine N.alt ?_ | refine N.forkT ?_ | refine N.forkF ?_) | refine N.idx (i + nl b) 1 (by first | rfl | exact i64n _ (by omega) (by omega) | (rw [i64n _ (by omega) (by omega)]; omega)) (by omega) ?_ | refine N.store _ (writes_next (v := a % bw (i + 1) * b) (by omega) (by omega) (by rw [w32, Nat.mod_eq_of_lt hC]; exact hCe)) ?_ | refine N.forkNo (by decide) ?_ | refine N.forkYes (by decide) ?_ | refine N.forkYes (by rw [decide_eq_true_eq]; omega) ?_ | refine N.forkNo (by rw [decide_eq_false_iff_not]; omega) ?_ | refine N.obl trivial ?_ | exact N.true | fail)
          refine N.go ?_
          refine N.next (i + 1) ⟨by show i + 1 ≤ nl a; omega, by show nl a - (i + 1) < nl a - i; omega⟩ ?_
          repeat (refine N.go ?_; first | exact N.true | with_reducible (first | refine N.obl rfl ?_ | refine N.obl (ChunkLe.refl _) ?_) | refine N.obl (int_i64 (by rw [IntWalk.i64_in _ (by omega)]; rfl)) ?_ | refine N.obl (inteq (by rw [i64n _ (by omega) (by omega)]; rfl)) ?_ | refine N.obl (by rw [← hme]; exact ChunkLe.refl _) ?_ |  fail_if_success skip)
    · obtain rfl : i = nl a := by omega
      have he : a % bw (nl a) * b = a * b := by rw [Nat.mod_eq_of_lt (nl_self a)]
      repeat' (refine N.go ?_; first | with_reducible (first | refine N.obl (by decide) ?_ | refine N.eq ?_ | refine N.obl rfl ?_ | refine N.obl ⟨by kernel_rfl, by kernel_rfl⟩ ?_ | refine N.alt ?_ | refine N.forkT ?_ | refine N.forkF ?_) | refine N.call (cTrim (a * b) (nl a + nl b) (nl a + nl b) _ _ _ (by rfl) (by rw [he]; exact isNum _ _ _) (by omega) (by omega) hab) ?_ | refine N.obl (re_sl (by rfl) rfl) ?_ | refine N.obl ⟨⟨by show 2 ≤ 10; decide, post_num (by rfl) rfl (by rw [he]; exact isNum _ _ _)⟩, trivial⟩ ?_ | refine N.forkNo (by decide) ?_ | refine N.forkYes (by decide) ?_ | refine N.forkYes (by rw [decide_eq_true_eq]; omega) ?_ | refine N.forkNo (by rw [decide_eq_false_iff_not]; omega) ?_ | refine N.obl trivial ?_ | exact N.true | fail)
set_option maxRecDepth 100000 in
set_option maxHeartbeats 2000000 in
theorem cMinus (a b m q i j K : Nat) (o o2 : Chunk) (h : List (Option Chunk)) (hi : h[i]? = some (some o)) (hin : IsNum o m a) (hj : h[j]? = some (some o2)) (hjn : IsNum o2 q b) (hl : nl a ≤ m) (hm : m ≤ 31) (hl2 : nl b ≤ q) (hq : q ≤ 31) (hba : b ≤ a) (hp : 0 < nl a) (h0 : h[K]? = some none) :
    CallOK Try.prog 83 [.slice (some ⟨i, 0, some 0⟩) (nl a) m, .slice (some ⟨j, 0, some 0⟩) (nl b) q] h (.slice (some ⟨K, 0, some 0⟩) (nl (a - b)) (nl a)) [(K, numC true (nl a) (a - b))] [i, j] := by
  have hs : a - b < bw (nl a) := Nat.lt_of_le_of_lt (Nat.sub_le _ _) (nl_self a)
  refine call_sub (G := tys) [⟨i, _, numC false m a, ⟨false, 0, []⟩⟩, ⟨j, _, numC false q b, ⟨false, 0, []⟩⟩] [⟨K, 6, numC true (nl a) (a - b)⟩] [.slice (some ⟨0, 0, some 0⟩) (nl a) m, .slice (some ⟨1, 0, some 0⟩) (nl b) q] tysOK mixed Try.func83 (by rfl) (Try.call83) ⟨hi, hj, trivial⟩ ⟨⟨fun h => (by cases h), Nat.le_of_eq hin.1.symm, num_re hin⟩, ⟨fun h => (by cases h), Nat.le_of_eq hjn.1.symm, num_re hjn⟩, trivial⟩ (by simp [Apart]) ⟨⟨h0, rfl, by show 0 < nl a; exact hp, by simp⟩, trivial⟩ ⟨.slice rfl, .slice rfl, trivial⟩ ?_
  repeat' (refine N.go ?_; first | with_reducible (first | refine N.obl (by decide) ?_ | refine N.eq ?_ | refine N.obl rfl ?_ | refine N.obl ⟨by kernel_rfl, by kernel_rfl⟩ ?_ | refine N.alt ?_ | refine N.forkT ?_ | refine N.forkF ?_) | refine MakeN.mk1 (nl a) (nl a) rfl rfl (by show 4 * (nl a) ≤ _; omega) (by omega) (Nat.mul_one _).symm ?_ | refine N.forkNo (by decide) ?_ | refine N.forkYes (by decide) ?_ | refine N.forkYes (by rw [decide_eq_true_eq]; omega) ?_ | refine N.forkNo (by rw [decide_eq_false_iff_not]; omega) ?_ | refine N.obl trivial ?_ | exact N.true | fail)
  refine N.go ?_
  refine N.loop (α := Nat) (fun i => i ≤ nl a) (fun i => nl a - i) (fun i => [(13, .int .i64 (i : Int)), (6, .int .i64 (brw a b i))]) (fun i => [(6, numC true (nl a) ((a - b) % bw i))]) 0 (Nat.zero_le _) ?_ ?_
  · repeat (refine N.go ?_; first | exact N.true | with_reducible (first | refine N.obl rfl ?_ | refine N.obl (ChunkLe.refl _) ?_) | refine N.obl (int_i64 (by rw [IntWalk.i64_in _ (by omega)]; rfl)) ?_ | refine N.obl (by rw [bw_zero, Nat.mod_one]; exact zeros_num) ?_ | refine N.obl (inteq (by unfold brw; rw [bw_zero, Nat.mod_one, Nat.mod_one]; rfl)) ?_ |  fail_if_success skip)
  · intro i hi'
    have hi' : i ≤ nl a := hi'
    rcases Nat.lt_or_ge i (nl a) with hlt | hge
    · obtain ⟨m1, m2, m3, m4⟩ := sub_word a b i hba
      have hx := lm_lt a i
      have hy := lm_lt b i
      have hsh : ∀ z : Int, z.fdiv (2 ^ sh 32 IntKind.i64) = z.fdiv 4294967296 := fun z => rfl
      generalize hc0 : brw a b i = C at *
      have ev : IntKind.i64.wrap (IntKind.i64.wrap (C + IntKind.i64.wrap ((lm a i : Nat) : Int)) - IntKind.i64.wrap ((lm b i : Nat) : Int)) = C + (lm a i : Nat) - (lm b i : Nat) := by
        rw [i64n (lm a i : Nat) (by omega) (by omega), i64n (lm b i : Nat) (by omega) (by omega), i64n (C + (lm a i : Nat)) (by omega) (by omega), i64n _ (by omega) (by omega)]
      rcases Nat.lt_or_ge i (nl b) with hib | hib
      · repeat' (refine N.go ?_; first | with_reducible (first | refine N.obl (by decide) ?_ | refine N.eq ?_ | refine N.obl rfl ?_ | refine N.obl ⟨by kernel_rfl, by kernel_rfl⟩ ?_ | refine N.alt ?_ | refine N.forkT ?_ | refine N.forkF ?_) | refine N.idx i 1 (by first | rfl | exact i64n _ (by omega) (by omega) | (rw [i64n _ (by omega) (by omega)]; omega)) (by omega) ?_ | refine N.load _ (reads_num (p := i) (by omega) (by omega)) ?_ | refine N.store _ (writes_next rfl (by omega) (by rw [ev, IntKind.wrap_u32, m1])) ?_ | refine N.forkNo (by decide) ?_ | refine N.forkYes (by decide) ?_ | refine N.forkYes (by rw [decide_eq_true_eq]; omega) ?_ | refine N.forkNo (by rw [decide_eq_false_iff_not]; omega) ?_ | refine N.obl trivial ?_ | exact N.true | fail)
        refine N.go ?_
        refine N.next (i + 1) ⟨by show i + 1 ≤ nl a; omega, by show nl a - (i + 1) < nl a - i; omega⟩ ?_
        repeat (refine N.go ?_; first | exact N.true | with_reducible (first | refine N.obl rfl ?_ | refine N.obl (ChunkLe.refl _) ?_) | refine N.obl (int_i64 (by rw [IntWalk.i64_in _ (by omega)]; rfl)) ?_ | refine N.obl (inteq (by rw [i64n _ (by omega) (by omega)]; rfl)) ?_ | refine N.obl (inteq (by rw [ev, hsh, m2])) ?_ |  fail_if_success skip)
      · have hz : lm b i = 0 := lm_big (Nat.lt_of_lt_of_le (nl_self b) (bw_mono hib))
        have ev0 : IntKind.i64.wrap (C + IntKind.i64.wrap ((lm a i : Nat) : Int)) = C + (lm a i : Nat) - (lm b i : Nat) := by
          rw [hz, i64n (lm a i : Nat) (by omega) (by omega), i64n _ (by omega) (by omega)]; omega
        repeat' (refine N.go ?_; first | with_reducible (first | refine N.obl (by decide) ?_ | refine N.eq ?_ | refine N.obl rfl ?_ | refine N.obl ⟨by kernel_rfl, by kernel_rfl⟩ ?_ | refine N.alt ?_ | refine N.forkT ?_ | refine N.forkF ?_) | refine N.idx i 1 (by first | rfl | exact i64n _ (by omega) (by omega) | (rw [i64n _ (by omega) (by omega)]; omega)) (by omega) ?_ | refine N.load _ (reads_num (p := i) (by omega) (by omega)) ?_ | refine N.store _ (writes_next rfl (by omega) (by rw [ev0, IntKind.wrap_u32, m1])) ?_ | refine N.forkNo (by decide) ?_ | refine N.forkYes (by decide) ?_ | refine N.forkYes (by rw [decide_eq_true_eq]; omega) ?_ | refine N.forkNo (by rw [decide_eq_false_iff_not]; omega) ?_ | refine N.obl trivial ?_ | exact N.true | fail)
        refine N.go ?_
        refine N.next (i + 1) ⟨by show i + 1 ≤ nl a; omega, by show nl a - (i + 1) < nl a - i; omega⟩ ?_
        repeat (refine N.go ?_; first | exact N.true | with_reducible (first | refine N.obl rfl ?_ | refine N.obl (ChunkLe.refl _) ?_) | refine N.obl (int_i64 (by rw [IntWalk.i64_in _ (by omega)]; rfl)) ?_ | refine N.obl (inteq (by rw [i64n _ (by omega) (by omega)]; rfl)) ?_ | refine N.obl (inteq (by rw [ev0, hsh, m2])) ?_ |  fail_if_success skip)
    · obtain rfl : i = nl a := by omega
      have he : (a - b) % bw (nl a) = a - b := Nat.mod_eq_of_lt hs
      repeat' (refine N.go ?_; first | with_reducible (first | refine N.obl (by decide) ?_ | refine N.eq ?_ | refine N.obl rfl ?_ | refine N.obl ⟨by kernel_rfl, by kernel_rfl⟩ ?_ | refine N.alt ?_ | refine N.forkT ?_ | refine N.forkF ?_) | refine N.call (cTrim (a - b) (nl a) (nl a) _ _ _ (by rfl) (by rw [he]; exact isNum _ _ _) (by omega) (by omega) hs) ?_ | refine N.obl (re_sl (by rfl) rfl) ?_ | refine N.obl ⟨⟨by show 2 ≤ 6; decide, post_num (by rfl) rfl (by rw [he]; exact isNum _ _ _)⟩, trivial⟩ ?_ | refine N.forkNo (by decide) ?_ | refine N.forkYes (by decide) ?_ | refine N.forkYes (by rw [decide_eq_true_eq]; omega) ?_ | refine N.forkNo (by rw [decide_eq_false_iff_not]; omega) ?_ | refine N.obl trivial ?_ | exact N.true | fail)
set_option maxRecDepth 100000 in
set_option maxHeartbeats 2000000 in
theorem cPlusA (a b m q i j K : Nat) (o o2 : Chunk) (h : List (Option Chunk)) (hi : h[i]? = some (some o)) (hin : IsNum o m a) (hj : h[j]? = some (some o2)) (hjn : IsNum o2 q b) (hl : nl a ≤ m) (hm : m ≤ 31) (hl2 : nl b ≤ q) (hq : q ≤ 31) (hba : nl b ≤ nl a) (h0 : h[K]? = some none) :
    CallOK Try.prog 78 [.slice (some ⟨i, 0, some 0⟩) (nl a) m, .slice (some ⟨j, 0, some 0⟩) (nl b) q] h (.slice (some ⟨K, 0, some 0⟩) (nl (a + b)) (nl a + 1)) [(K, numC true (nl a + 1) (a + b))] [i, j] := by
  have hs : a + b < bw (nl a + 1) := by
    rw [bw_succ]
    have h1 := nl_self a
    have h2 := nl_le.1 (show nl b ≤ nl a by omega)
    omega
  refine call_sub (G := tys) [⟨i, _, numC false m a, ⟨false, 0, []⟩⟩, ⟨j, _, numC false q b, ⟨false, 0, []⟩⟩] [⟨K, 6, numC true (nl a + 1) (a + b)⟩] [.slice (some ⟨0, 0, some 0⟩) (nl a) m, .slice (some ⟨1, 0, some 0⟩) (nl b) q] tysOK mixed Try.func78 (by rfl) (Try.call78) ⟨hi, hj, trivial⟩ ⟨⟨fun h => (by cases h), Nat.le_of_eq hin.1.symm, num_re hin⟩, ⟨fun h => (by cases h), Nat.le_of_eq hjn.1.symm, num_re hjn⟩, trivial⟩ (by simp [Apart]) ⟨⟨h0, rfl, by show 0 < nl a + 1; omega, by simp⟩, trivial⟩ ⟨.slice rfl, .slice rfl, trivial⟩ ?_
  repeat' (refine N.go ?_; first | with_reducible (first | refine N.obl (by decide) ?_ | refine N.eq ?_ | refine N.obl rfl ?_ | refine N.obl ⟨by kernel_rfl, by kernel_rfl⟩ ?_ | refine N.alt ?_ | refine N.forkT ?_ | refine N.forkF ?_) | refine MakeN.mk1 (nl a + 1) (nl a + 1) (by rw [i64n _ (by omega) (by omega)]; rfl) (by rw [i64n _ (by omega) (by omega)]; rfl) (by show 4 * (nl a + 1) ≤ _; omega) (by omega) (Nat.mul_one _).symm ?_ | refine N.forkNo (by decide) ?_ | refine N.forkYes (by decide) ?_ | refine N.forkYes (by rw [decide_eq_true_eq]; omega) ?_ | refine N.forkNo (by rw [decide_eq_false_iff_not]; omega) ?_ | refine N.obl trivial ?_ | exact N.true | fail)
  refine N.go ?_
  refine N.loop (α := Nat) (fun i => i ≤ nl a) (fun i => nl a - i) (fun i => [(21, .int .i64 (i : Int)), (6, .int .u64 (((a % bw i + b % bw i) / bw i : Nat) : Int))]) (fun i => [(6, numC true (nl a + 1) ((a + b) % bw i))]) 0 (Nat.zero_le _) ?_ ?_
  · repeat (refine N.go ?_; first | exact N.true | with_reducible (first | refine N.obl rfl ?_ | refine N.obl (ChunkLe.refl _) ?_) | refine N.obl (int_i64 (by rw [IntWalk.i64_in _ (by omega)]; rfl)) ?_ | refine N.obl (by rw [bw_zero, Nat.mod_one]; exact zeros_num) ?_ | refine N.obl (inteq (by rw [bw_zero, Nat.mod_one, Nat.mod_one]; rfl)) ?_ |  fail_if_success skip)
  · intro i hi'
    have hi' : i ≤ nl a := hi'
    have hcm : a + b = a + b := by omega
    rcases Nat.lt_or_ge i (nl a) with hlt | hge
    · obtain ⟨m1, m2, m3⟩ := add_word a b i
      rw [hcm] at m1
      generalize hC : (a % bw i + b % bw i) / bw i = C at *
      have hx := lm_lt a i
      have hy := lm_lt b i
      have ev : IntKind.u64.wrap (IntKind.u64.wrap ((C : Int) + IntKind.u64.wrap ((lm a i : Nat) : Int)) + IntKind.u64.wrap ((lm b i : Nat) : Int)) = ((C + lm a i + lm b i : Nat) : Int) := by
        rw [w64 (n := lm a i) (by omega), w64 (n := lm b i) (by omega), ← Int.natCast_add, w64 (n := C + lm a i) (by omega), ← Int.natCast_add, w64 (by omega)]
      have ev0 : IntKind.u64.wrap ((C : Int) + IntKind.u64.wrap ((lm a i : Nat) : Int)) = ((C + lm a i : Nat) : Int) := by
        rw [w64 (n := lm a i) (by omega), ← Int.natCast_add, w64 (n := C + lm a i) (by omega)]
      rcases Nat.lt_or_ge i (nl b) with hib | hib
      · repeat' (refine N.go ?_; first | with_reducible (first | refine N.obl (by decide) ?_ | refine N.eq ?_ | refine N.obl rfl ?_ | refine N.obl ⟨by kernel_rfl, by kernel_rfl⟩ ?_ | refine N.alt ?_ | refine N.forkT ?_ | refine N.forkF ?_) | refine N.store _ (writes_next rfl (by omega) (by rw [ev, w32, m1])) ?_ | refine N.idx i 1 rfl (by omega) ?_ | refine N.load _ (reads_num (p := i) (by omega) (by omega)) ?_ | refine N.forkNo (by decide) ?_ | refine N.forkYes (by decide) ?_ | refine N.forkYes (by rw [decide_eq_true_eq]; omega) ?_ | refine N.forkNo (by rw [decide_eq_false_iff_not]; omega) ?_ | refine N.obl trivial ?_ | exact N.true | fail)
        refine N.go ?_
        refine N.next (i + 1) ⟨by show i + 1 ≤ nl a; omega, by omega⟩ ?_
        repeat (refine N.go ?_; first | exact N.true | with_reducible (first | refine N.obl rfl ?_ | refine N.obl (ChunkLe.refl _) ?_) | refine N.obl (int_i64 (by rw [IntWalk.i64_in _ (by omega)]; rfl)) ?_ | refine N.obl (inteq (by rw [i64n _ (by omega) (by omega)]; omega)) ?_ | refine N.obl (inteq (by rw [ev, fd32, m2])) ?_ |  fail_if_success skip)
      · have hz : lm b i = 0 := lm_big (Nat.lt_of_lt_of_le (nl_self b) (bw_mono hib))
        repeat' (refine N.go ?_; first | with_reducible (first | refine N.obl (by decide) ?_ | refine N.eq ?_ | refine N.obl rfl ?_ | refine N.obl ⟨by kernel_rfl, by kernel_rfl⟩ ?_ | refine N.alt ?_ | refine N.forkT ?_ | refine N.forkF ?_) | refine N.store _ (writes_next rfl (by omega) (by rw [ev0, w32, m1, hz]; rfl)) ?_ | refine N.idx i 1 rfl (by omega) ?_ | refine N.load _ (reads_num (p := i) (by omega) (by omega)) ?_ | refine N.forkNo (by decide) ?_ | refine N.forkYes (by decide) ?_ | refine N.forkYes (by rw [decide_eq_true_eq]; omega) ?_ | refine N.forkNo (by rw [decide_eq_false_iff_not]; omega) ?_ | refine N.obl trivial ?_ | exact N.true | fail)
        refine N.go ?_
        refine N.next (i + 1) ⟨by show i + 1 ≤ nl a; omega, by omega⟩ ?_
        repeat (refine N.go ?_; first | exact N.true | with_reducible (first | refine N.obl rfl ?_ | refine N.obl (ChunkLe.refl _) ?_) | refine N.obl (int_i64 (by rw [IntWalk.i64_in _ (by omega)]; rfl)) ?_ | refine N.obl (inteq (by rw [i64n _ (by omega) (by omega)]; omega)) ?_ | refine N.obl (inteq (by rw [ev0, fd32, m2, hz]; rfl)) ?_ |  fail_if_success skip)
    · obtain rfl : i = nl a := by omega
      have ha := nl_self a
      have hb := nl_le.1 (show nl b ≤ nl a by omega)
      have hc : ((a % bw (nl a) + b % bw (nl a)) / bw (nl a)) = lm (a + b) (nl a) := by
        rw [Nat.mod_eq_of_lt ha, Nat.mod_eq_of_lt hb, hcm]
        unfold lm
        rw [Nat.mod_eq_of_lt ((Nat.div_lt_iff_lt_mul (bw_pos _)).2 (by rw [Nat.mul_comm, ← bw_succ]; exact hs))]
      have hlt := lm_lt (a + b) (nl a)
      have he : (a + b) % bw (nl a + 1) = a + b := Nat.mod_eq_of_lt hs
      repeat' (refine N.go ?_; first | with_reducible (first | refine N.obl (by decide) ?_ | refine N.eq ?_ | refine N.obl rfl ?_ | refine N.obl ⟨by kernel_rfl, by kernel_rfl⟩ ?_ | refine N.alt ?_ | refine N.forkT ?_ | refine N.forkF ?_) | refine N.idx (nl a) 1 rfl (by omega) ?_ | refine N.store _ (writes_next rfl (by omega) (by rw [w32, hc]; omega)) ?_ | refine N.call (cTrim (a + b) (nl a + 1) (nl a + 1) _ _ _ (by rfl) (by rw [he]; exact isNum _ _ _) (by omega) (by omega) hs) ?_ | refine N.obl (re_sl (by rfl) rfl) ?_ | refine N.obl ⟨⟨by show 2 ≤ 6; decide, post_num (by rfl) rfl (by rw [he]; exact isNum _ _ _)⟩, trivial⟩ ?_ | refine N.forkNo (by decide) ?_ | refine N.forkYes (by decide) ?_ | refine N.forkYes (by rw [decide_eq_true_eq]; omega) ?_ | refine N.forkNo (by rw [decide_eq_false_iff_not]; omega) ?_ | refine N.obl trivial ?_ | exact N.true | fail)
set_option maxRecDepth 100000 in
set_option maxHeartbeats 2000000 in
theorem cPlusB (a b m q i j K : Nat) (o o2 : Chunk) (h : List (Option Chunk)) (hi : h[i]? = some (some o)) (hin : IsNum o m a) (hj : h[j]? = some (some o2)) (hjn : IsNum o2 q b) (hl : nl a ≤ m) (hm : m ≤ 31) (hl2 : nl b ≤ q) (hq : q ≤ 31) (hba : nl a < nl b) (h0 : h[K]? = some none) :
    CallOK Try.prog 78 [.slice (some ⟨i, 0, some 0⟩) (nl a) m, .slice (some ⟨j, 0, some 0⟩) (nl b) q] h (.slice (some ⟨K, 0, some 0⟩) (nl (a + b)) (nl b + 1)) [(K, numC true (nl b + 1) (a + b))] [i, j] := by
  have hs : a + b < bw (nl b + 1) := by
    rw [bw_succ]
    have h1 := nl_self b
    have h2 := nl_le.1 (show nl a ≤ nl b by omega)
    omega
  refine call_sub (G := tys) [⟨i, _, numC false m a, ⟨false, 0, []⟩⟩, ⟨j, _, numC false q b, ⟨false, 0, []⟩⟩] [⟨K, 6, numC true (nl b + 1) (a + b)⟩] [.slice (some ⟨0, 0, some 0⟩) (nl a) m, .slice (some ⟨1, 0, some 0⟩) (nl b) q] tysOK mixed Try.func78 (by rfl) (Try.call78) ⟨hi, hj, trivial⟩ ⟨⟨fun h => (by cases h), Nat.le_of_eq hin.1.symm, num_re hin⟩, ⟨fun h => (by cases h), Nat.le_of_eq hjn.1.symm, num_re hjn⟩, trivial⟩ (by simp [Apart]) ⟨⟨h0, rfl, by show 0 < nl b + 1; omega, by simp⟩, trivial⟩ ⟨.slice rfl, .slice rfl, trivial⟩ ?_
  repeat' (refine N.go ?_; first | with_reducible (first | refine N.obl (by decide) ?_ | refine N.eq ?_ | refine N.obl rfl ?_ | refine N.obl ⟨by kernel_rfl, by kernel_rfl⟩ ?_ | refine N.alt ?_ | refine N.forkT ?_ | refine N.forkF ?_) | refine MakeN.mk1 (nl b + 1) (nl b + 1) (by rw [i64n _ (by omega) (by omega)]; rfl) (by rw [i64n _ (by omega) (by omega)]; rfl) (by show 4 * (nl b + 1) ≤ _; omega) (by omega) (Nat.mul_one _).symm ?_ | refine N.forkNo (by decide) ?_ | refine N.forkYes (by decide) ?_ | refine N.forkYes (by rw [decide_eq_true_eq]; omega) ?_ | refine N.forkNo (by rw [decide_eq_false_iff_not]; omega) ?_ | refine N.obl trivial ?_ | exact N.true | fail)
  refine N.go ?_
  refine N.loop (α := Nat) (fun i => i ≤ nl b) (fun i => nl b - i) (fun i => [(21, .int .i64 (i : Int)), (6, .int .u64 (((b % bw i + a % bw i) / bw i : Nat) : Int))]) (fun i => [(6, numC true (nl b + 1) ((a + b) % bw i))]) 0 (Nat.zero_le _) ?_ ?_
  · repeat (refine N.go ?_; first | exact N.true | with_reducible (first | refine N.obl rfl ?_ | refine N.obl (ChunkLe.refl _) ?_) | refine N.obl (int_i64 (by rw [IntWalk.i64_in _ (by omega)]; rfl)) ?_ | refine N.obl (by rw [bw_zero, Nat.mod_one]; exact zeros_num) ?_ | refine N.obl (inteq (by rw [bw_zero, Nat.mod_one, Nat.mod_one]; rfl)) ?_ |  fail_if_success skip)
  · intro i hi'
    have hi' : i ≤ nl b := hi'
    have hcm : b + a = a + b := by omega
    rcases Nat.lt_or_ge i (nl b) with hlt | hge
    · obtain ⟨m1, m2, m3⟩ := add_word b a i
      rw [hcm] at m1
      generalize hC : (b % bw i + a % bw i) / bw i = C at *
      have hx := lm_lt b i
      have hy := lm_lt a i
      have ev : IntKind.u64.wrap (IntKind.u64.wrap ((C : Int) + IntKind.u64.wrap ((lm b i : Nat) : Int)) + IntKind.u64.wrap ((lm a i : Nat) : Int)) = ((C + lm b i + lm a i : Nat) : Int) := by
        rw [w64 (n := lm b i) (by omega), w64 (n := lm a i) (by omega), ← Int.natCast_add, w64 (n := C + lm b i) (by omega), ← Int.natCast_add, w64 (by omega)]
      have ev0 : IntKind.u64.wrap ((C : Int) + IntKind.u64.wrap ((lm b i : Nat) : Int)) = ((C + lm b i : Nat) : Int) := by
        rw [w64 (n := lm b i) (by omega), ← Int.natCast_add, w64 (n := C + lm b i) (by omega)]
      rcases Nat.lt_or_ge i (nl a) with hib | hib
      · repeat' (refine N.go ?_; first | with_reducible (first | refine N.obl (by decide) ?_ | refine N.eq ?_ | refine N.obl rfl ?_ | refine N.obl ⟨by kernel_rfl, by kernel_rfl⟩ ?_ | refine N.alt ?_ | refine N.forkT ?_ | refine N.forkF ?_) | refine N.store _ (writes_next rfl (by omega) (by rw [ev, w32, m1])) ?_ | refine N.idx i 1 rfl (by omega) ?_ | refine N.load _ (reads_num (p := i) (by omega) (by omega)) ?_ | refine N.forkNo (by decide) ?_ | refine N.forkYes (by decide) ?_ | refine N.forkYes (by rw [decide_eq_true_eq]; omega) ?_ | refine N.forkNo (by rw [decide_eq_false_iff_not]; omega) ?_ | refine N.obl trivial ?_ | exact N.true | fail)
        refine N.go ?_
        refine N.next (i + 1) ⟨by show i + 1 ≤ nl b; omega, by omega⟩ ?_
        repeat (refine N.go ?_; first | exact N.true | with_reducible (first | refine N.obl rfl ?_ | refine N.obl (ChunkLe.refl _) ?_) | refine N.obl (int_i64 (by rw [IntWalk.i64_in _ (by omega)]; rfl)) ?_ | refine N.obl (inteq (by rw [i64n _ (by omega) (by omega)]; omega)) ?_ | refine N.obl (inteq (by rw [ev, fd32, m2])) ?_ |  fail_if_success skip)
      · have hz : lm a i = 0 := lm_big (Nat.lt_of_lt_of_le (nl_self a) (bw_mono hib))
        repeat' (refine N.go ?_; first | with_reducible (first | refine N.obl (by decide) ?_ | refine N.eq ?_ | refine N.obl rfl ?_ | refine N.obl ⟨by kernel_rfl, by kernel_rfl⟩ ?_ | refine N.alt ?_ | refine N.forkT ?_ | refine N.forkF ?_) | refine N.store _ (writes_next rfl (by omega) (by rw [ev0, w32, m1, hz]; rfl)) ?_ | refine N.idx i 1 rfl (by omega) ?_ | refine N.load _ (reads_num (p := i) (by omega) (by omega)) ?_ | refine N.forkNo (by decide) ?_ | refine N.forkYes (by decide) ?_ | refine N.forkYes (by rw [decide_eq_true_eq]; omega) ?_ | refine N.forkNo (by rw [decide_eq_false_iff_not]; omega) ?_ | refine N.obl trivial ?_ | exact N.true | fail)
        refine N.go ?_
        refine N.next (i + 1) ⟨by show i + 1 ≤ nl b; omega, by omega⟩ ?_
        repeat (refine N.go ?_; first | exact N.true | with_reducible (first | refine N.obl rfl ?_ | refine N.obl (ChunkLe.refl _) ?_) | refine N.obl (int_i64 (by rw [IntWalk.i64_in _ (by omega)]; rfl)) ?_ | refine N.obl (inteq (by rw [i64n _ (by omega) (by omega)]; omega)) ?_ | refine N.obl (inteq (by rw [ev0, fd32, m2, hz]; rfl)) ?_ |  fail_if_success skip)
    · obtain rfl : i = nl b := by omega
      have ha := nl_self b
      have hb := nl_le.1 (show nl a ≤ nl b by omega)
      have hc : ((b % bw (nl b) + a % bw (nl b)) / bw (nl b)) = lm (a + b) (nl b) := by
        rw [Nat.mod_eq_of_lt ha, Nat.mod_eq_of_lt hb, hcm]
        unfold lm
        rw [Nat.mod_eq_of_lt ((Nat.div_lt_iff_lt_mul (bw_pos _)).2 (by rw [Nat.mul_comm, ← bw_succ]; exact hs))]
      have hlt := lm_lt (a + b) (nl b)
      have he : (a + b) % bw (nl b + 1) = a + b := Nat.mod_eq_of_lt hs
      repeat' (refine N.go ?_; first | with_reducible (first | refine N.obl (by decide) ?_ | refine N.eq ?_ | refine N.obl rfl ?_ | refine N.obl ⟨by kernel_rfl, by kernel_rfl⟩ ?_ | refine N.alt ?_ | refine N.forkT ?_ | refine N.forkF ?_) | refine N.idx (nl b) 1 rfl (by omega) ?_ | refine N.store _ (writes_next rfl (by omega) (by rw [w32, hc]; omega)) ?_ | refine N.call (cTrim (a + b) (nl b + 1) (nl b + 1) _ _ _ (by rfl) (by rw [he]; exact isNum _ _ _) (by omega) (by omega) hs) ?_ | refine N.obl (re_sl (by rfl) rfl) ?_ | refine N.obl ⟨⟨by show 2 ≤ 6; decide, post_num (by rfl) rfl (by rw [he]; exact isNum _ _ _)⟩, trivial⟩ ?_ | refine N.forkNo (by decide) ?_ | refine N.forkYes (by decide) ?_ | refine N.forkYes (by rw [decide_eq_true_eq]; omega) ?_ | refine N.forkNo (by rw [decide_eq_false_iff_not]; omega) ?_ | refine N.obl trivial ?_ | exact N.true | fail)
theorem zX_selfish : Selfish zX := fun p S w h => (h.1 _).2 rfl
theorem zc_num : IsNum zC 0 0 := ⟨rfl, fun j hj => absurd hj (Nat.not_lt_zero j)⟩
theorem nl0 {a : Nat} (h : nl a = 0) : a = 0 := nl_zero_iff.1 h
theorem post_z {ix : List (Nat × Nat)} {h : List (Option Chunk)} {k : Nat} (hh : h[k]? = some (some zC)) : PostC ix h k zC := ⟨zC, hh, id, Nat.le_refl _, fun j hj => absurd hj (Nat.not_lt_zero j)⟩
set_option maxRecDepth 100000 in
set_option maxHeartbeats 2000000 in
theorem cTimes0 (a b m q i j K : Nat) (o o2 : Chunk) (h : List (Option Chunk)) (hi : h[i]? = some (some o)) (hin : IsNum o m a) (hj : h[j]? = some (some o2)) (hjn : IsNum o2 q b) (hl : nl a ≤ m) (hm : m ≤ 31) (hl2 : nl b ≤ q) (hq : q ≤ 31) (hz : nl a + nl b = 0) (h0 : h[K]? = some none) :
    CallOK Try.prog 82 [.slice (some ⟨i, 0, some 0⟩) (nl a) m, .slice (some ⟨j, 0, some 0⟩) (nl b) q] h (.slice (some ⟨K, 0, some 0⟩) 0 0) [(K, zC)] [i, j] := by
  have ha0 : nl a = 0 := by omega
  have hb0 : nl b = 0 := by have := nl0 ha0; omega
  refine call_res (G := tys) (fun _ : Unit => True) (fun _ => partH [⟨i, _, numC false m a, ⟨false, 0, []⟩⟩, ⟨j, _, numC false q b, ⟨false, 0, []⟩⟩]) [⟨i, _, numC false m a, ⟨false, 0, []⟩⟩, ⟨j, _, numC false q b, ⟨false, 0, []⟩⟩] [⟨K, 10, zC⟩] [.slice (some ⟨0, 0, some 0⟩) (nl a) m, .slice (some ⟨1, 0, some 0⟩) (nl b) q] tysOK mixed Try.func82 (by rfl) (Try.call82) ⟨hi, hj, trivial⟩ ⟨⟨fun h => (by cases h), Nat.le_of_eq hin.1.symm, num_re hin⟩, ⟨fun h => (by cases h), Nat.le_of_eq hjn.1.symm, num_re hjn⟩, trivial⟩ (by simp [Apart]) ⟨.inl rfl, .inl rfl, trivial⟩ ⟨⟨h0, rfl, .inr zX_selfish, by simp⟩, trivial⟩ ⟨.slice rfl, .slice rfl, trivial⟩ Opens.same (fun _ _ => ?_)
  repeat' (refine N.go ?_; first | with_reducible (first | refine N.obl (by decide) ?_ | refine N.eq ?_ | refine N.obl rfl ?_ | refine N.obl ⟨by kernel_rfl, by kernel_rfl⟩ ?_ | refine N.alt ?_ | refine N.forkT ?_ | refine N.forkF ?_) | refine N.mk (.inr ⟨by rw [ha0, hb0]; rfl, by rw [ha0, hb0]; rfl, ?_⟩) | refine N.roll 1 ?_ | refine N.forkNo (by rw [ha0]; rfl) ?_ | refine N.call (cTrim 0 0 0 _ _ _ (by rfl) zc_num (Nat.le_refl _) (by omega) (by rw [bw_zero]; decide)) ?_ | refine N.endSame ?_ | refine N.obl (re_sl (by rfl) (by rw [nl_zero])) ?_ | refine N.obl ⟨⟨by show 2 ≤ 10; decide, post_z (by rfl)⟩, trivial⟩ ?_ | refine N.obl ⟨⟨.inl rfl, .inl rfl, trivial⟩, ⟨.inr ⟨_, by rfl, rfl⟩, trivial⟩⟩ ?_ | refine N.forkNo (by decide) ?_ | refine N.forkYes (by decide) ?_ | refine N.obl trivial ?_ | exact N.true | fail)
set_option maxRecDepth 100000 in
set_option maxHeartbeats 2000000 in
theorem cMinus0 (a b m q i j K : Nat) (o o2 : Chunk) (h : List (Option Chunk)) (hi : h[i]? = some (some o)) (hin : IsNum o m a) (hj : h[j]? = some (some o2)) (hjn : IsNum o2 q b) (hl : nl a ≤ m) (hm : m ≤ 31) (hl2 : nl b ≤ q) (hq : q ≤ 31) (hz : nl a = 0) (hba : b ≤ a) (h0 : h[K]? = some none) :
    CallOK Try.prog 83 [.slice (some ⟨i, 0, some 0⟩) (nl a) m, .slice (some ⟨j, 0, some 0⟩) (nl b) q] h (.slice (some ⟨K, 0, some 0⟩) 0 0) [(K, zC)] [i, j] := by
  have ha0 : nl a = 0 := by omega
  have hb0 : nl b = 0 := by have := nl0 ha0; have hb : b = 0 := (by omega); rw [hb, nl_zero]
  refine call_res (G := tys) (fun _ : Unit => True) (fun _ => partH [⟨i, _, numC false m a, ⟨false, 0, []⟩⟩, ⟨j, _, numC false q b, ⟨false, 0, []⟩⟩]) [⟨i, _, numC false m a, ⟨false, 0, []⟩⟩, ⟨j, _, numC false q b, ⟨false, 0, []⟩⟩] [⟨K, 6, zC⟩] [.slice (some ⟨0, 0, some 0⟩) (nl a) m, .slice (some ⟨1, 0, some 0⟩) (nl b) q] tysOK mixed Try.func83 (by rfl) (Try.call83) ⟨hi, hj, trivial⟩ ⟨⟨fun h => (by cases h), Nat.le_of_eq hin.1.symm, num_re hin⟩, ⟨fun h => (by cases h), Nat.le_of_eq hjn.1.symm, num_re hjn⟩, trivial⟩ (by simp [Apart]) ⟨.inl rfl, .inl rfl, trivial⟩ ⟨⟨h0, rfl, .inr zX_selfish, by simp⟩, trivial⟩ ⟨.slice rfl, .slice rfl, trivial⟩ Opens.same (fun _ _ => ?_)
  repeat' (refine N.go ?_; first | with_reducible (first | refine N.obl (by decide) ?_ | refine N.eq ?_ | refine N.obl rfl ?_ | refine N.obl ⟨by kernel_rfl, by kernel_rfl⟩ ?_ | refine N.alt ?_ | refine N.forkT ?_ | refine N.forkF ?_) | refine N.mk (.inr ⟨by rw [ha0]; rfl, by rw [ha0]; rfl, ?_⟩) | refine N.roll 1 ?_ | refine N.forkNo (by rw [ha0]; rfl) ?_ | refine N.call (cTrim 0 0 0 _ _ _ (by rfl) zc_num (Nat.le_refl _) (by omega) (by rw [bw_zero]; decide)) ?_ | refine N.endSame ?_ | refine N.obl (re_sl (by rfl) (by rw [nl_zero])) ?_ | refine N.obl ⟨⟨by show 2 ≤ 6; decide, post_z (by rfl)⟩, trivial⟩ ?_ | refine N.obl ⟨⟨.inl rfl, .inl rfl, trivial⟩, ⟨.inr ⟨_, by rfl, rfl⟩, trivial⟩⟩ ?_ | refine N.forkNo (by decide) ?_ | refine N.forkYes (by decide) ?_ | refine N.obl trivial ?_ | exact N.true | fail)
end Go.Proofs.Ytchfbblpflcniaa


/-
  Numbers of the document whose words lie somewhere in memory: what is known of them is kept as one stretch.
-/
set_option linter.unusedVariables false
set_option linter.unusedSimpArgs false
namespace Go.Proofs.Ytchfbblpflcniaa
open Go Go.RowKit Sx

/-- A number: its words lie at a block, from a place on, with room. -/
structure Nm where
  v : Nat
  b : Nat
  o : Nat
  c : Nat
abbrev Nm.sl (e : Nm) : Value := .slice (some ⟨e.b, e.o, none⟩) (nl e.v) e.c
abbrev Nm.big (s : Bool) (e : Nm) : Value := .agg #[.bool s, .bool false, .slice (some ⟨e.b, e.o, none⟩) (nl e.v) e.c]
structure NumAt (w : World) (e : Nm) : Prop where
  lt : e.b < w.heap.size
  len : nl e.v ≤ e.c
  cap : e.c ≤ 31
  cell : ∀ j, j < e.c → w.cell? ⟨e.b, e.o + j, none⟩ = some (.int .u32 ((lm e.v j : Nat) : Int))
theorem cell_same {w w' : World} {b o : Nat} (h : w'.heap[b]? = w.heap[b]?) : w'.cell? ⟨b, o, none⟩ = w.cell? ⟨b, o, none⟩ := by
  simp only [World.cell?, h]
theorem NumAt.keep {w w' : World} {e : Nm} (h : NumAt w e) (hb : w'.heap[e.b]? = w.heap[e.b]?) : NumAt w' e := by
  refine ⟨?_, h.len, h.cap, fun j hj => (cell_same hb).trans (h.cell j hj)⟩
  have hlt := h.lt
  have : w.heap[e.b]? = some (w.heap[e.b]'hlt) := Array.getElem?_eq_getElem hlt
  rw [this] at hb
  exact (Array.getElem?_eq_some_iff.1 hb).1
theorem NumAt.below {w w' : World} {e : Nm} (h : NumAt w e) (hb : Below w.heap.size w w') : NumAt w' e := h.keep (hb.block e.b h.lt)
abbrev arX (L : List Nm) : Ext where
  inv := fun p S w => ∀ e ∈ L, S e.b ∧ NumAt w e
  keep := fun h hb e he => ⟨(h e he).1, (h e he).2.keep (hb _ (h e he).1)⟩
abbrev arC (L : List Nm) : Chunk := @Chunk.mk (arX L) true 0 []
section
variable {X : Ctx} {ρ : Nat → Nat × Nat} {h : List (Option Chunk)} {w w' : World}
theorem ar_new {K : Nat} {es : List Nm} {e0 : Nm} (H : HOK X ρ h w) (hi : h[K]? = some none) (hB : Below w.heap.size w w') (h0 : e0 ∈ es) (hes : ∀ e ∈ es, NumAt w' e ∧ w.heap.size ≤ e.b) : ∃ ρ', AgreeOn (Fil h) ρ ρ' ∧ HOK X ρ' (h.set K (some (arC es))) w' := by
  obtain ⟨ρ', h1, _, h2⟩ := H.newX hi (d := arC es) (b0 := e0.b) (S' := fun b => ∃ e ∈ es, b = e.b) rfl hB ⟨(hes e0 h0).2, (hes e0 h0).1.lt⟩ (fun b ⟨e, he, hb⟩ => by subst hb; exact ⟨(hes e he).2, (hes e he).1.lt⟩) (fun e he => ⟨⟨e, he, rfl⟩, (hes e he).1⟩)
  exact ⟨ρ', h1, h2⟩
theorem ar_more {i : Nat} {L es : List Nm} (H : HOK X ρ h w) (hi : h[i]? = some (some (arC L))) (hB : Below w.heap.size w w') (hes : ∀ e ∈ es, NumAt w' e ∧ w.heap.size ≤ e.b) : HOK X ρ (h.set i (some (arC (es ++ L)))) w' := by
  obtain ⟨S, E⟩ := H.ext
  have hin := E.inv i _ hi
  refine H.turnX E hi (d := arC (es ++ L)) (S' := fun b => S i b ∨ ∃ e ∈ es, b = e.b) id (Nat.le_refl _) (fun j hj => absurd hj (Nat.not_lt_zero j)) hB.os hB.tape hB.output hB.size (fun b hb _ => hB.block b hb) (fun b hb => ?_) (fun e he => ?_)
  · rcases hb with hb | ⟨e, he, rfl⟩
    · exact ⟨Nat.lt_of_lt_of_le (E.mine i _ b hi hb).2.1 hB.size, .inl rfl, .inl hb⟩
    · exact ⟨(hes e he).1.lt, .inl rfl, .inr (hes e he).2⟩
  · rcases List.mem_append.1 he with he | he
    · exact ⟨.inr ⟨e, he, rfl⟩, (hes e he).1⟩
    · exact ⟨.inl (hin e he).1, (hin e he).2.below hB⟩
end
/-- A slice that stands for the words of a number: known, or in a stretch. -/
inductive SrcS (h : List (Option Chunk)) (L : List Nm) : Value → Nat → Prop
  | ar {e : Nm} (he : e ∈ L) : SrcS h L (.slice (some ⟨e.b, e.o, none⟩) (nl e.v) e.c) e.v
  | ch {j v c : Nat} {o : Chunk} (hj : h[j]? = some (some o)) (hn : IsNum o c v) (hl : nl v ≤ c) (hm : c ≤ 31) : SrcS h L (.slice (some ⟨j, 0, some 0⟩) (nl v) c) v
/-- Arguments, as numbers. -/
inductive AV where
  | at_ (e : Nm)
  | bigat (s : Bool) (e : Nm)
  | pl (v : Value)
  | sl (v : Nat)
  | big (s : Bool) (v : Nat)
inductive ArgS (h : List (Option Chunk)) (L : List Nm) : Value → AV → Prop
  | at_ {e : Nm} (he : e ∈ L) : ArgS h L (.slice (some ⟨e.b, e.o, none⟩) (nl e.v) e.c) (.at_ e)
  | bigat {s : Bool} {e : Nm} (he : e ∈ L) : ArgS h L (.agg #[.bool s, .bool false, .slice (some ⟨e.b, e.o, none⟩) (nl e.v) e.c]) (.bigat s e)
  | pl {v : Value} (hp : plain2 v = true) : ArgS h L v (.pl v)
  | sl {sv : Value} {v : Nat} (s : SrcS h L sv v) : ArgS h L sv (.sl v)
  | big {b : Bool} {sv : Value} {v : Nat} (s : SrcS h L sv v) : ArgS h L (.agg #[.bool b, .bool false, sv]) (.big b v)
inductive AR (w : World) : AV → Value → Prop
  | at_ {e : Nm} (ha : NumAt w e) : AR w (.at_ e) e.sl
  | bigat {s : Bool} {e : Nm} (ha : NumAt w e) : AR w (.bigat s e) (e.big s)
  | pl {v : Value} (hp : plain2 v = true) : AR w (.pl v) v
  | sl {e : Nm} {v : Nat} (ha : NumAt w e) (hv : e.v = v) : AR w (.sl v) e.sl
  | big {s : Bool} {e : Nm} {v : Nat} (ha : NumAt w e) (hv : e.v = v) : AR w (.big s v) (e.big s)
theorem SrcS.at {X : Ctx} {ρ : Nat → Nat × Nat} {h : List (Option Chunk)} {w : World} {L : List Nm} {sv : Value} {v : Nat} (H : HOK X ρ h w) (ha : ∀ e ∈ L, NumAt w e) (s : SrcS h L sv v) :
    ∃ e : Nm, NumAt w e ∧ e.v = v ∧ den ρ sv = e.sl ∧ den0 ρ sv = e.sl ∧ den1 ρ sv = e.sl := by
  cases s with
  | ar he => rename_i e; exact ⟨e, ha e he, rfl, rfl, rfl, rfl⟩
  | ch hj hn hl hm =>
    rename_i j c o
    refine ⟨⟨v, (ρ j).1, (ρ j).2, c⟩, ⟨H.lt j o hj, hl, hm, fun k hk => ?_⟩, rfl, rfl, rfl, rfl⟩
    obtain ⟨x, hx, hd⟩ := H.cell j o hj k (by rw [hn.1]; exact hk)
    rw [hn.2 k hk] at hd
    show w.cell? ⟨(ρ j).1, (ρ j).2 + k, none⟩ = _
    rw [hx, ← hd.self]; rfl
theorem args_at {X : Ctx} {ρ : Nat → Nat × Nat} {h : List (Option Chunk)} {w : World} {L : List Nm} (H : HOK X ρ h w) (ha : ∀ e ∈ L, NumAt w e) : ∀ {vs : List Value} {qs : List AV} {xs : List Value}, All2 (ArgS h L) vs qs → All2 (Den (Fil h) ρ) vs xs → All2 (AR w) qs xs
  | [], [], [], _, _ => trivial
  | [], [], _ :: _, _, h => h.elim
  | [], _ :: _, _, h, _ => h.elim
  | _ :: _, [], _, h, _ => h.elim
  | _ :: _, _ :: _, [], _, h => h.elim
  | v :: vs, a :: qs, x :: xs, h1, h2 => by
    refine ⟨?_, args_at H ha h1.2 h2.2⟩
    have hd := h2.1.self
    cases h1.1 with
    | at_ he => rename_i e; rw [← hd]; exact .at_ (ha e he)
    | bigat he =>
      rename_i s e
      rw [den_plain (v := Nm.big s e) rfl] at hd
      rw [← hd]; exact .bigat (ha e he)
    | pl hp => rw [den_plain hp] at hd; rw [← hd]; exact .pl hp
    | sl s =>
      obtain ⟨e, h1, h2, h3, _⟩ := s.at H ha
      rw [h3] at hd; rw [← hd]; exact .sl h1 h2
    | big s =>
      rename_i b sv u
      obtain ⟨e, h1, h2, _, _, h3⟩ := s.at H ha
      have e1 : den ρ (.agg #[.bool b, .bool false, sv]) = .agg #[den1 ρ (.bool b), den1 ρ (.bool false), den1 ρ sv] := by
        simp only [den, den2, List.map_toArray, List.map_cons, List.map_nil]
      rw [e1, h3] at hd
      rw [← hd]; exact .big h1 h2
section
variable {P : Program} {G : Tys}
/-- A callee's contract by numbers, as a contract that adds what it makes to what is known. -/
theorem call_arM {g : FuncId} {vs : List Value} {qs : List AV} {h : List (Option Chunk)} {L : List Nm} {α : Type} (i : Nat) (hi : h[i]? = some (some (arC L))) (ok : α → Prop) (V : α → Value) (es : α → List Nm) (hr : ∀ xs w, (callFunc g xs).run P w = .ok (.enter g xs) w) (ha : All2 (ArgS h L) vs qs) (hV : ∀ κ, ok κ → plain3 (V κ) = true)
    (hc : ∀ w xs, All2 (AR w) qs xs → Calls P g ⟨xs⟩ w fun e w' => ∃ κ, ok κ ∧ e = .returned (V κ) ∧ Below w.heap.size w w' ∧ ∀ n ∈ es κ, NumAt w' n ∧ w.heap.size ≤ n.b) :
    CallAll P g vs h fun v ms => ∃ κ, ok κ ∧ v = V κ ∧ ms = [(i, arC (es κ ++ L))] := fun X ρ w xs H hx => by
  obtain ⟨S, E⟩ := H.ext
  have hL : ∀ e ∈ L, NumAt w e := fun e he => ((E.inv i _ hi) e he).2
  refine .inr ⟨hr _ w, (hc w xs (args_at H hL ha hx)).mono ?_⟩
  rintro e w' ⟨κ, hok, rfl, hB, hes⟩
  exact ⟨V κ, rfl, V κ, _, ρ, ⟨κ, hok, rfl, rfl⟩, AgreeOn.refl _ _, ar_more H hi hB hes, fun r _ => den_plain3 (hV κ hok) r⟩
/-- The same where nothing is known yet. -/
theorem call_arN {g : FuncId} {vs : List Value} {qs : List AV} {h : List (Option Chunk)} {α : Type} (K : Nat) (hi : h[K]? = some none) (ok : α → Prop) (V : α → Value) (es : α → List Nm) (hr : ∀ xs w, (callFunc g xs).run P w = .ok (.enter g xs) w) (ha : All2 (ArgS h []) vs qs) (hV : ∀ κ, ok κ → plain3 (V κ) = true) (h0 : ∀ κ, ok κ → es κ ≠ [])
    (hc : ∀ w xs, All2 (AR w) qs xs → Calls P g ⟨xs⟩ w fun e w' => ∃ κ, ok κ ∧ e = .returned (V κ) ∧ Below w.heap.size w w' ∧ ∀ n ∈ es κ, NumAt w' n ∧ w.heap.size ≤ n.b) :
    CallAll P g vs h fun v ms => ∃ κ, ok κ ∧ v = V κ ∧ ms = [(K, arC (es κ))] := fun X ρ w xs H hx => by
  refine .inr ⟨hr _ w, (hc w xs (args_at H (fun e he => by cases he) ha hx)).mono ?_⟩
  rintro e w' ⟨κ, hok, rfl, hB, hes⟩
  obtain ⟨e0, he0⟩ := List.exists_mem_of_ne_nil _ (h0 κ hok)
  obtain ⟨ρ', h1, h2⟩ := ar_new H hi hB he0 hes
  exact ⟨V κ, rfl, V κ, _, ρ', ⟨κ, hok, rfl, rfl⟩, h1, h2, fun r _ => den_plain3 (hV κ hok) r⟩
/-- A callee that makes nothing that is kept: it answers a plain value. -/
theorem call_arP {g : FuncId} {vs : List Value} {qs : List AV} {h : List (Option Chunk)} {L : List Nm} {V : Value} (rh : List Nat) (i : Nat) (hi : h[i]? = some (some (arC L)) ∨ L = []) (hrh : i ∈ rh ∨ L = []) (hr : ∀ xs w, (callFunc g xs).run P w = .ok (.enter g xs) w) (ha : ∀ h₂ : List (Option Chunk), (∀ i ∈ rh, h₂[i]? = h[i]?) → All2 (ArgS h₂ L) vs qs) (hV : plain3 V = true)
    (hc : ∀ w xs, All2 (AR w) qs xs → Calls P g ⟨xs⟩ w fun e w' => e = .returned V ∧ Below w.heap.size w w') :
    CallOK P g vs h V [] rh := fun h₂ hrr _ X ρ w xs H hx => by
  obtain ⟨S, E⟩ := H.ext
  have hL : ∀ e ∈ L, NumAt w e := fun e he => by
    rcases hi with hi | hi
    · rcases hrh with h1 | h1
      · exact ((E.inv i _ ((hrr i h1).trans hi)) e he).2
      · rw [h1] at he; cases he
    · rw [hi] at he; cases he
  refine .inr ⟨hr _ w, (hc w xs (args_at H hL (ha h₂ hrr) hx)).mono ?_⟩
  rintro e w' ⟨rfl, hB⟩
  exact ⟨V, rfl, ρ, AgreeOn.refl _ _, H.frame hB, fun r _ => den_plain3 hV r⟩

/-! ### A contract by stretches, as one by numbers -/
def numH (es : List Nm) : List (Option Chunk) := es.map fun e => some (numC false e.c e.v)
def numρ (es : List Nm) (k : Nat) : Nat × Nat := match es[k]? with
  | some e => (e.b, e.o)
  | none => (0, 0)
theorem num_hok {es : List Nm} {w : World} (m : Nat) (he : ∀ e ∈ es, NumAt w e) : HOK ⟨w, fun _ => False, 0, numρ es⟩ (numρ es) (numH es ++ List.replicate m none) w := by
  have getP : ∀ (k : Nat) (c : Chunk), (numH es ++ List.replicate m none)[k]? = some (some c) → ∃ e : Nm, es[k]? = some e ∧ numC false e.c e.v = c := fun k c hk => by
    have hlen : (numH es).length = es.length := by simp [numH]
    rcases Nat.lt_or_ge k es.length with hlt | hge
    · rw [List.getElem?_append_left (by omega)] at hk
      simp only [numH, List.getElem?_map] at hk
      cases e : es[k]? with
      | none => rw [e] at hk; cases hk
      | some s => rw [e] at hk; exact ⟨s, rfl, by simpa using hk⟩
    · rw [List.getElem?_append_right (by omega), List.getElem?_replicate] at hk
      split at hk
      · cases hk
      · cases hk
  have hρ : ∀ (k : Nat) (e : Nm), es[k]? = some e → numρ es k = (e.b, e.o) := fun k e hk => by unfold numρ; rw [hk]
  refine ⟨Evo.refl _ _, fun i hi => absurd hi (by simp), fun k c hk => ?_, fun k c hk j hj => ?_, fun k c hk ho => ?_, fun k c l d hk ho => ?_, ExtOK.nil fun k c hk => ?_⟩
  · obtain ⟨e, hs, rfl⟩ := getP k c hk
    rw [hρ k e hs]; exact (he e (List.mem_of_getElem? hs)).lt
  · obtain ⟨e, hs, rfl⟩ := getP k c hk
    have hj : j < e.c := hj
    rw [hρ k e hs, seg_cell hj]
    exact ⟨_, (he e (List.mem_of_getElem? hs)).cell j hj, Den1.plain rfl⟩
  · obtain ⟨e, hs, rfl⟩ := getP k c hk; cases ho
  · obtain ⟨e, hs, rfl⟩ := getP k c hk; cases ho
  · obtain ⟨e, hs, rfl⟩ := getP k c hk; rfl
inductive NArg (es : List Nm) : Value → Value → Prop
  | pl {v : Value} (hp : plain2 v = true) : NArg es v v
  | sl {k : Nat} {e : Nm} (h : es[k]? = some e) : NArg es (.slice (some ⟨k, 0, some 0⟩) (nl e.v) e.c) e.sl
  | big {k : Nat} {e : Nm} {s : Bool} (h : es[k]? = some e) : NArg es (.agg #[.bool s, .bool false, .slice (some ⟨k, 0, some 0⟩) (nl e.v) e.c]) (e.big s)
theorem narg_den {es : List Nm} {m : Nat} : ∀ {vs xs : List Value}, All2 (NArg es) vs xs → All2 (Den (Fil (numH es ++ List.replicate m none)) (numρ es)) vs xs
  | [], [], _ => trivial
  | [], _ :: _, h => h.elim
  | _ :: _, [], h => h.elim
  | v :: vs, x :: xs, h => by
    refine ⟨?_, narg_den h.2⟩
    have fil : ∀ (k : Nat) (e : Nm), es[k]? = some e → Fil (numH es ++ List.replicate m none) k := fun k e hk => ⟨numC false e.c e.v, by
      rw [List.getElem?_append_left (by simp [numH]; exact (List.getElem?_eq_some_iff.1 hk).1)]
      simp only [numH, List.getElem?_map, hk]; rfl⟩
    have hρ : ∀ (k : Nat) (e : Nm), es[k]? = some e → numρ es k = (e.b, e.o) := fun k e hk => by unfold numρ; rw [hk]
    cases h.1 with
    | pl hp => exact Den.plain hp
    | sl hk =>
      intro r hr
      have e1 := hr _ (fil _ _ hk)
      rw [hρ _ _ hk] at e1
      simp only [den, den2, den1, den0, denA, e1]; rfl
    | big hk =>
      intro r hr
      have e1 := hr _ (fil _ _ hk)
      rw [hρ _ _ hk] at e1
      simp only [den, den2, List.map_toArray, List.map_cons, List.map_nil, den1, den0, denA, e1]; rfl
/-- A contract by stretches that makes one more number. -/
theorem num_new {g : FuncId} {vs xs : List Value} {es : List Nm} {m v : Nat} {V : Nat → Value} {rh : List Nat} {w : World} (hr : ∀ xs w, (callFunc g xs).run P w = .ok (.enter g xs) w) (he : ∀ e ∈ es, NumAt w e) (hx : All2 (NArg es) vs xs) (hm : 0 < m ∧ m ≤ 31) (hl : nl v ≤ m) (W : Nm → Value)
    (hW : ∀ (r : Nat → Nat × Nat), den r (V es.length) = W ⟨v, (r es.length).1, (r es.length).2, m⟩)
    (hc : CallOK P g vs (numH es ++ [none]) (V es.length) [(es.length, numC true m v)] rh) : Calls P g ⟨xs⟩ w fun e w' => ∃ κ : Nm, κ.v = v ∧ e = .returned (W κ) ∧ Below w.heap.size w w' ∧ NumAt w' κ ∧ w.heap.size ≤ κ.b := by
  rcases hc _ (fun _ _ => rfl) (fun _ _ => rfl) _ _ w xs (num_hok 1 he) (narg_den (m := 1) hx) with ⟨x, w', hrun, _⟩ | ⟨_, hcl⟩
  · rw [hr] at hrun; cases hrun
  refine hcl.mono ?_
  rintro e w' ⟨x, rfl, ρ', _, H, hd⟩
  have hk : (modH (numH es ++ [none]) [(es.length, numC true m v)])[es.length]? = some (some (numC true m v)) := by
    show ((numH es ++ [none]).set es.length _)[es.length]? = _
    rw [List.getElem?_set_self (by simp [numH])]
  refine ⟨⟨v, (ρ' es.length).1, (ρ' es.length).2, m⟩, rfl, ?_, H.evo.below, ⟨H.lt _ _ hk, hl, hm.2, fun j hj => ?_⟩, ?_⟩
  · rw [← hW ρ', hd.self]
  · obtain ⟨y, hy, hyd⟩ := H.cell _ _ hk j hj
    rw [seg_cell hj] at hyd
    rw [hy, ← hyd.self]; rfl
  · rcases (H.own _ _ hk rfl 0 hm.1).2 with h1 | h1
    · exact h1
    · exact h1.elim
/-- A contract by stretches that makes nothing: the answer is told by where the arguments lie. -/
theorem num_same {g : FuncId} {vs xs : List Value} {es : List Nm} {V : Value} {rh : List Nat} {w : World} (hr : ∀ xs w, (callFunc g xs).run P w = .ok (.enter g xs) w) (he : ∀ e ∈ es, NumAt w e) (hx : All2 (NArg es) vs xs) (W : Value)
    (hW : All2 (NArg es) [V] [W]) (hc : CallOK P g vs (numH es ++ []) V [] rh) : Calls P g ⟨xs⟩ w fun e w' => e = .returned W ∧ Below w.heap.size w w' := by
  rcases hc _ (fun _ _ => rfl) (fun _ _ => rfl) _ _ w xs (num_hok 0 he) (narg_den (m := 0) hx) with ⟨x, w', hrun, _⟩ | ⟨_, hcl⟩
  · rw [hr] at hrun; cases hrun
  refine hcl.mono ?_
  rintro e w' ⟨x, rfl, ρ', ha, H, hd⟩
  refine ⟨?_, H.evo.below⟩
  have h1 := (narg_den (m := 0) hW).1 ρ' ha
  rw [← h1, hd.self]
/-- A slice without elements that is new. -/
theorem num_new0 {g : FuncId} {vs xs : List Value} {es : List Nm} {V : Nat → Value} {rh : List Nat} {w : World} (hr : ∀ xs w, (callFunc g xs).run P w = .ok (.enter g xs) w) (he : ∀ e ∈ es, NumAt w e) (hx : All2 (NArg es) vs xs) (W : Nm → Value)
    (hW : ∀ (r : Nat → Nat × Nat), den r (V es.length) = W ⟨0, (r es.length).1, (r es.length).2, 0⟩)
    (hc : CallOK P g vs (numH es ++ [none]) (V es.length) [(es.length, zC)] rh) : Calls P g ⟨xs⟩ w fun e w' => ∃ κ : Nm, κ.v = 0 ∧ e = .returned (W κ) ∧ Below w.heap.size w w' ∧ NumAt w' κ ∧ w.heap.size ≤ κ.b := by
  rcases hc _ (fun _ _ => rfl) (fun _ _ => rfl) _ _ w xs (num_hok 1 he) (narg_den (m := 1) hx) with ⟨x, w', hrun, _⟩ | ⟨_, hcl⟩
  · rw [hr] at hrun; cases hrun
  refine hcl.mono ?_
  rintro e w' ⟨x, rfl, ρ', _, H, hd⟩
  have hk : (modH (numH es ++ [none]) [(es.length, zC)])[es.length]? = some (some zC) := by
    show ((numH es ++ [none]).set es.length _)[es.length]? = _
    rw [List.getElem?_set_self (by simp [numH])]
  obtain ⟨S, E⟩ := H.ext
  obtain ⟨hS, _⟩ := E.inv _ _ hk
  refine ⟨⟨0, (ρ' es.length).1, (ρ' es.length).2, 0⟩, rfl, ?_, H.evo.below, ⟨H.lt _ _ hk, by rw [nl_zero]; exact Nat.le_refl _, by show (0 : Nat) ≤ 31; omega, fun j hj => absurd hj (Nat.not_lt_zero j)⟩, ?_⟩
  · rw [← hW ρ', hd.self]
  · rcases (E.mine _ _ _ hk ((hS _).2 rfl)).2.2 with h1 | h1
    · exact h1
    · exact h1.1.elim
theorem N_callM {g : FuncId} {vs : List Value} {h : List (Option Chunk)} {slot : Nat} {C : List Nat → Prop} {K : List Nat → Value → List (Nat × Chunk) → Prop} (hs : List Nat) (R : Value → List (Nat × Chunk) → Prop) (hC : C hs) (hc : ∀ h₂ : List (Option Chunk), (∀ q ∈ hs, h₂[q]? = h[q]?) → CallAll P g vs h₂ R) (k : ∀ v ms, R v ms → (∀ q ∈ ms.map (·.1), q ∈ hs) ∧ K hs v ms) : N (CallM P g vs h slot C K) := N.mk ⟨hs, R, hC, hc, k⟩
/-- What a callee makes: one number more. -/
def Mk (P : Program) (g : FuncId) (xs : List Value) (w : World) (v : Nat) (W : Nm → Value) : Prop := Calls P g ⟨xs⟩ w fun e w' => ∃ κ : Nm, κ.v = v ∧ e = .returned (W κ) ∧ Below w.heap.size w w' ∧ NumAt w' κ ∧ w.heap.size ≤ κ.b
theorem mk_arM {g : FuncId} {vs : List Value} {qs : List AV} {h : List (Option Chunk)} {L : List Nm} (i : Nat) (hi : h[i]? = some (some (arC L))) (v : Nat) (W : Nm → Value) (hr : ∀ xs w, (callFunc g xs).run P w = .ok (.enter g xs) w) (ha : All2 (ArgS h L) vs qs) (hW : ∀ κ : Nm, plain3 (W κ) = true) (hc : ∀ w xs, All2 (AR w) qs xs → Mk P g xs w v W) :
    CallAll P g vs h fun x ms => ∃ κ : Nm, κ.v = v ∧ x = W κ ∧ ms = [(i, arC (κ :: L))] :=
  call_arM i hi (fun κ : Nm => κ.v = v) W (fun κ => [κ]) hr ha (fun κ _ => hW κ) fun w xs hx => (hc w xs hx).mono fun e w' ⟨κ, h1, h2, h3, h4, h5⟩ => ⟨κ, h1, h2, h3, fun n hn => by rw [List.mem_singleton.1 hn]; exact ⟨h4, h5⟩⟩
theorem mk_arN {g : FuncId} {vs : List Value} {qs : List AV} {h : List (Option Chunk)} (K : Nat) (hi : h[K]? = some none) (v : Nat) (W : Nm → Value) (hr : ∀ xs w, (callFunc g xs).run P w = .ok (.enter g xs) w) (ha : All2 (ArgS h []) vs qs) (hW : ∀ κ : Nm, plain3 (W κ) = true) (hc : ∀ w xs, All2 (AR w) qs xs → Mk P g xs w v W) :
    CallAll P g vs h fun x ms => ∃ κ : Nm, κ.v = v ∧ x = W κ ∧ ms = [(K, arC [κ])] :=
  call_arN K hi (fun κ : Nm => κ.v = v) W (fun κ => [κ]) hr ha (fun κ _ => hW κ) (fun _ _ => by simp) fun w xs hx => (hc w xs hx).mono fun e w' ⟨κ, h1, h2, h3, h4, h5⟩ => ⟨κ, h1, h2, h3, fun n hn => by rw [List.mem_singleton.1 hn]; exact ⟨h4, h5⟩⟩
/-- The end of such a callee's walk. -/
def EndM (h : List (Option Chunk)) (x : Value) (v : Nat) (W : Nm → Value) : Prop := ∃ (κ : Nm) (i : Nat) (L : List Nm), κ.v = v ∧ x = W κ ∧ h[i]? = some (some (arC L)) ∧ κ ∈ L
theorem N.endM {h : List (Option Chunk)} {x : Value} {v : Nat} {W : Nm → Value} (κ : Nm) (i : Nat) {L : List Nm} (h1 : κ.v = v) (h2 : x = W κ) (h3 : h[i]? = some (some (arC L))) (h4 : κ ∈ L) : N (EndM h x v W) := N.mk ⟨κ, i, L, h1, h2, h3, h4⟩
theorem calls_nums {f : FuncId} {fn : Func} {c : Code} {vs xs : List Value} {es : List Nm} {v : Nat} {W : Nm → Value} (w : World) (hG : TysOK P G) (hm : P.follows .mixedOrders = true) (hf : P.funcs[f]? = some fn) (hb : fn.body = some c) (he : ∀ e ∈ es, NumAt w e) (hx : All2 (NArg es) vs xs) (hW : ∀ κ : Nm, plain3 (W κ) = true)
    (hwp : initK vs fn.ntmps fun t => wpC P G 0 c (bodyQ P G fn fun x st => N (EndM st.h x v W)) ⟨t, numH es⟩) : Mk P f xs w v W := by
  have H := num_hok (w := w) 0 he
  have hd := narg_den (m := 0) hx
  simp only [List.replicate_zero, List.append_nil] at H hd
  refine (calls_sx (args := ⟨xs⟩) hG hm hf hb H hd hwp).mono ?_
  rintro e w' ⟨ρ', x, st, y, rfl, H', hdx, hq⟩
  obtain ⟨κ, i, L, h1, h2, h3, h4⟩ := hq.out
  obtain ⟨S, E⟩ := H'.ext
  obtain ⟨g1, g2⟩ := E.inv i _ h3 κ h4
  refine ⟨κ, h1, ?_, H'.evo.below, g2, ?_⟩
  · rw [← hdx.self, h2, den_plain3 (hW κ)]
  · rcases (E.mine _ _ _ h3 g1).2.2 with h5 | h5
    · exact h5
    · exact h5.1.elim
/-- A callee of numbers that answers a plain value. -/
theorem calls_numsP {f : FuncId} {fn : Func} {c : Code} {vs xs : List Value} {es : List Nm} {V : Value} (w : World) (hG : TysOK P G) (hm : P.follows .mixedOrders = true) (hf : P.funcs[f]? = some fn) (hb : fn.body = some c) (he : ∀ e ∈ es, NumAt w e) (hx : All2 (NArg es) vs xs) (hV : plain3 V = true)
    (hwp : initK vs fn.ntmps fun t => wpC P G 0 c (bodyQ P G fn fun x _ => N (x = V)) ⟨t, numH es⟩) : Calls P f ⟨xs⟩ w fun e w' => e = .returned V ∧ Below w.heap.size w w' := by
  have H := num_hok (w := w) 0 he
  have hd := narg_den (m := 0) hx
  simp only [List.replicate_zero, List.append_nil] at H hd
  refine (calls_sx (args := ⟨xs⟩) hG hm hf hb H hd hwp).mono ?_
  rintro e w' ⟨ρ', x, st, y, rfl, H', hdx, hq⟩
  have hq := hq.out
  subst hq
  exact ⟨by rw [← hdx.self, den_plain3 hV], H'.evo.below⟩
end
end Go.Proofs.Ytchfbblpflcniaa


/-
  The document's numbers, wherever their words lie: Of, Mul, Add, Neg, Sub, det, Det, Sign.
-/
set_option linter.unusedVariables false
set_option linter.unusedSimpArgs false
namespace Go.Proofs.Ytchfbblpflcniaa
open Go Go.RowKit Sx

abbrev bz (z : Int) : AV := .big (decide (z < 0)) z.natAbs
abbrev bzW (z : Int) (κ : Nm) : Value := .agg #[.bool (decide (z < 0)), .bool false, .slice (some ⟨κ.b, κ.o, none⟩) (nl κ.v) κ.c]
theorem ar_sl2 {w : World} {a b : Nat} {xs : List Value} (hx : All2 (AR w) [.sl a, .sl b] xs) : ∃ e e' : Nm, xs = [e.sl, e'.sl] ∧ NumAt w e ∧ e.v = a ∧ NumAt w e' ∧ e'.v = b := by
  rcases xs with _ | ⟨x, _ | ⟨y, _ | ⟨z, xs⟩⟩⟩ <;> first | exact hx.elim | exact hx.2.elim | exact hx.2.2.elim | skip
  obtain ⟨h1, h2, _⟩ := hx
  cases h1 with
  | sl a1 v1 => cases h2 with
    | sl a2 v2 => exact ⟨_, _, rfl, a1, v1, a2, v2⟩
theorem ar_big1 {w : World} {s : Bool} {a : Nat} {xs : List Value} (hx : All2 (AR w) [.big s a] xs) : ∃ e : Nm, xs = [e.big s] ∧ NumAt w e ∧ e.v = a := by
  rcases xs with _ | ⟨x, _ | ⟨y, xs⟩⟩ <;> first | exact hx.elim | exact hx.2.elim | skip
  obtain ⟨h1, _⟩ := hx
  cases h1 with
  | big a1 v1 => exact ⟨_, rfl, a1, v1⟩
theorem ar_big2 {w : World} {s u : Bool} {a b : Nat} {xs : List Value} (hx : All2 (AR w) [.big s a, .big u b] xs) : ∃ e e' : Nm, xs = [e.big s, e'.big u] ∧ NumAt w e ∧ e.v = a ∧ NumAt w e' ∧ e'.v = b := by
  rcases xs with _ | ⟨x, _ | ⟨y, _ | ⟨z, xs⟩⟩⟩ <;> first | exact hx.elim | exact hx.2.elim | exact hx.2.2.elim | skip
  obtain ⟨h1, h2, _⟩ := hx
  cases h1 with
  | big a1 v1 => cases h2 with
    | big a2 v2 => exact ⟨_, _, rfl, a1, v1, a2, v2⟩
theorem ar_big3 {w : World} {s u r : Bool} {a b c : Nat} {xs : List Value} (hx : All2 (AR w) [.big s a, .big u b, .big r c] xs) : ∃ e e' e'' : Nm, xs = [e.big s, e'.big u, e''.big r] ∧ NumAt w e ∧ e.v = a ∧ NumAt w e' ∧ e'.v = b ∧ NumAt w e'' ∧ e''.v = c := by
  rcases xs with _ | ⟨x, _ | ⟨y, _ | ⟨z, _ | ⟨z', xs⟩⟩⟩⟩ <;> first | exact hx.elim | exact hx.2.elim | exact hx.2.2.elim | exact hx.2.2.2.elim | skip
  obtain ⟨h1, h2, h3, _⟩ := hx
  cases h1 with
  | big a1 v1 => cases h2 with
    | big a2 v2 => cases h3 with
      | big a3 v3 => exact ⟨_, _, _, rfl, a1, v1, a2, v2, a3, v3⟩
theorem ar_pl1 {w : World} {v : Value} {xs : List Value} (hx : All2 (AR w) [.pl v] xs) : xs = [v] := by
  rcases xs with _ | ⟨x, _ | ⟨y, xs⟩⟩ <;> first | exact hx.elim | exact hx.2.elim | skip
  obtain ⟨h1, _⟩ := hx
  cases h1; rfl
theorem two_at {w : World} {e e' : Nm} (h : NumAt w e) (h' : NumAt w e') : ∀ x ∈ [e, e'], NumAt w x := fun x hx => by
  rcases List.mem_cons.1 hx with rfl | hx
  · exact h
  · rw [List.mem_singleton.1 hx]; exact h'
theorem one_at {w : World} {e : Nm} (h : NumAt w e) : ∀ x ∈ [e], NumAt w x := fun x hx => by rw [List.mem_singleton.1 hx]; exact h
theorem three_at {w : World} {e e' e'' : Nm} (h : NumAt w e) (h' : NumAt w e') (h'' : NumAt w e'') : ∀ x ∈ [e, e', e''], NumAt w x := fun x hx => by
  rcases List.mem_cons.1 hx with rfl | hx
  · exact h
  · exact two_at h' h'' x hx
theorem wTimes (a b : Nat) (hb : nl a + nl b ≤ 31) (w : World) (xs : List Value) (hx : All2 (AR w) [.sl a, .sl b] xs) : Mk Try.prog 82 xs w (a * b) Nm.sl := by
  obtain ⟨e, e', rfl, h1, v1, h2, v2⟩ := ar_sl2 hx
  subst v1 v2
  by_cases hz : nl e.v + nl e'.v = 0
  · have e0 : e.v * e'.v = 0 := by rw [nl0 (show nl e.v = 0 by omega)]; simp
    rw [e0]
    exact num_new0 (V := fun K => .slice (some ⟨K, 0, some 0⟩) 0 0) (es := [e, e']) (Try.call82) (two_at h1 h2) (vs := [.slice (some ⟨0, 0, some 0⟩) (nl e.v) e.c, .slice (some ⟨1, 0, some 0⟩) (nl e'.v) e'.c]) (xs := [e.sl, e'.sl]) ⟨.sl rfl, .sl rfl, trivial⟩ Nm.sl (fun r => by show _ = Value.slice _ (nl 0) 0; rw [nl_zero]; rfl) (cTimes0 e.v e'.v e.c e'.c 0 1 2 _ _ _ rfl (isNum _ _ _) rfl (isNum _ _ _) h1.len h1.cap h2.len h2.cap hz rfl)
  · exact num_new (V := fun K => .slice (some ⟨K, 0, some 0⟩) (nl (e.v * e'.v)) (nl e.v + nl e'.v)) (es := [e, e']) (Try.call82) (two_at h1 h2) (vs := [.slice (some ⟨0, 0, some 0⟩) (nl e.v) e.c, .slice (some ⟨1, 0, some 0⟩) (nl e'.v) e'.c]) (xs := [e.sl, e'.sl]) ⟨.sl rfl, .sl rfl, trivial⟩ ⟨by omega, by omega⟩ (nl_le.2 (mul_nl3 _ _)) Nm.sl (fun r => rfl) (cTimesN e.v e'.v e.c e'.c 0 1 2 _ _ _ rfl (isNum _ _ _) rfl (isNum _ _ _) h1.len h1.cap h2.len h2.cap (by omega) rfl)
theorem wMinus (a b : Nat) (hba : b ≤ a) (w : World) (xs : List Value) (hx : All2 (AR w) [.sl a, .sl b] xs) : Mk Try.prog 83 xs w (a - b) Nm.sl := by
  obtain ⟨e, e', rfl, h1, v1, h2, v2⟩ := ar_sl2 hx
  subst v1 v2
  by_cases hz : nl e.v = 0
  · have e0 : e.v - e'.v = 0 := by rw [nl0 (show nl e.v = 0 by omega)]; simp
    rw [e0]
    exact num_new0 (V := fun K => .slice (some ⟨K, 0, some 0⟩) 0 0) (es := [e, e']) (Try.call83) (two_at h1 h2) (vs := [.slice (some ⟨0, 0, some 0⟩) (nl e.v) e.c, .slice (some ⟨1, 0, some 0⟩) (nl e'.v) e'.c]) (xs := [e.sl, e'.sl]) ⟨.sl rfl, .sl rfl, trivial⟩ Nm.sl (fun r => by show _ = Value.slice _ (nl 0) 0; rw [nl_zero]; rfl) (cMinus0 e.v e'.v e.c e'.c 0 1 2 _ _ _ rfl (isNum _ _ _) rfl (isNum _ _ _) h1.len h1.cap h2.len h2.cap hz hba rfl)
  · have hl := h1.len
    have hc := h1.cap
    exact num_new (V := fun K => .slice (some ⟨K, 0, some 0⟩) (nl (e.v - e'.v)) (nl e.v)) (es := [e, e']) (Try.call83) (two_at h1 h2) (vs := [.slice (some ⟨0, 0, some 0⟩) (nl e.v) e.c, .slice (some ⟨1, 0, some 0⟩) (nl e'.v) e'.c]) (xs := [e.sl, e'.sl]) ⟨.sl rfl, .sl rfl, trivial⟩ ⟨by omega, by omega⟩ (nl_le.2 (Nat.lt_of_le_of_lt (Nat.sub_le _ _) (nl_self _))) Nm.sl (fun r => rfl) (cMinus e.v e'.v e.c e'.c 0 1 2 _ _ _ rfl (isNum _ _ _) rfl (isNum _ _ _) h1.len h1.cap h2.len h2.cap hba (by omega) rfl)
theorem wPlus (a b : Nat) (ha : nl a ≤ 30) (hb : nl b ≤ 30) (w : World) (xs : List Value) (hx : All2 (AR w) [.sl a, .sl b] xs) : Mk Try.prog 78 xs w (a + b) Nm.sl := by
  obtain ⟨e, e', rfl, h1, v1, h2, v2⟩ := ar_sl2 hx
  subst v1 v2
  by_cases hz : nl e.v < nl e'.v
  · exact num_new (V := fun K => .slice (some ⟨K, 0, some 0⟩) (nl (e.v + e'.v)) (nl e'.v + 1)) (es := [e, e']) (Try.call78) (two_at h1 h2) (vs := [.slice (some ⟨0, 0, some 0⟩) (nl e.v) e.c, .slice (some ⟨1, 0, some 0⟩) (nl e'.v) e'.c]) (xs := [e.sl, e'.sl]) ⟨.sl rfl, .sl rfl, trivial⟩ ⟨by omega, by omega⟩ (nl_le.2 (by rw [bw_succ]; have q1 := nl_self e.v; have q2 := nl_self e'.v; have q3 := bw_mono (show nl e.v ≤ nl e'.v by omega); omega)) Nm.sl (fun r => rfl) (cPlusB e.v e'.v e.c e'.c 0 1 2 _ _ _ rfl (isNum _ _ _) rfl (isNum _ _ _) h1.len h1.cap h2.len h2.cap hz rfl)
  · exact num_new (V := fun K => .slice (some ⟨K, 0, some 0⟩) (nl (e.v + e'.v)) (nl e.v + 1)) (es := [e, e']) (Try.call78) (two_at h1 h2) (vs := [.slice (some ⟨0, 0, some 0⟩) (nl e.v) e.c, .slice (some ⟨1, 0, some 0⟩) (nl e'.v) e'.c]) (xs := [e.sl, e'.sl]) ⟨.sl rfl, .sl rfl, trivial⟩ ⟨by omega, by omega⟩ (nl_le.2 (by rw [bw_succ]; have q1 := nl_self e.v; have q2 := nl_self e'.v; have q3 := bw_mono (show nl e'.v ≤ nl e.v by omega); omega)) Nm.sl (fun r => rfl) (cPlusA e.v e'.v e.c e'.c 0 1 2 _ _ _ rfl (isNum _ _ _) rfl (isNum _ _ _) h1.len h1.cap h2.len h2.cap (by omega) rfl)
theorem wCmp (a b : Nat) (w : World) (xs : List Value) (hx : All2 (AR w) [.sl a, .sl b] xs) : Calls Try.prog 79 ⟨xs⟩ w fun e w' => e = .returned (.int .i64 (cmpN a b)) ∧ Below w.heap.size w w' := by
  obtain ⟨e, e', rfl, h1, v1, h2, v2⟩ := ar_sl2 hx
  subst v1 v2
  have q1 := h1.cap
  have q2 := h2.cap
  exact num_same (es := [e, e']) (Try.call79) (two_at h1 h2) (vs := [.slice (some ⟨0, 0, some 0⟩) (nl e.v) e.c, .slice (some ⟨1, 0, some 0⟩) (nl e'.v) e'.c]) (xs := [e.sl, e'.sl]) ⟨.sl rfl, .sl rfl, trivial⟩ (.int .i64 (cmpN e.v e'.v)) ⟨.pl rfl, trivial⟩ (cCmp e.v e'.v e.c e'.c 0 1 _ _ _ rfl (isNum _ _ _) rfl (isNum _ _ _) h1.len (by omega) h2.len (by omega))
theorem wMade (s : Bool) (e : Nm) (w : World) (h1 : NumAt w e) : Calls Try.prog 80 ⟨[.bool s, e.sl]⟩ w fun e' w' => e' = .returned (e.big (s && decide (0 < e.v))) ∧ Below w.heap.size w w' :=
  num_same (es := [e]) (Try.call80) (one_at h1) (vs := [.bool s, .slice (some ⟨0, 0, some 0⟩) (nl e.v) e.c]) (xs := [.bool s, e.sl]) ⟨.pl rfl, .sl rfl, trivial⟩ (e.big (s && decide (0 < e.v))) (V := .agg #[.bool (s && decide (0 < e.v)), .bool false, .slice (some ⟨0, 0, some 0⟩) (nl e.v) e.c]) ⟨.big rfl, trivial⟩ (cMade32 e.v e.c (nl e.v) 0 s _ rfl _ _ rfl (isNum _ _ _) h1.len h1.cap (nl_self _))
theorem cAMade (s : Bool) (κ : Nm) (i : Nat) {L : List Nm} {h : List (Option Chunk)} (hi : h[i]? = some (some (arC L))) (hκ : κ ∈ L) :
    CallOK Try.prog 80 [.bool s, .slice (some ⟨κ.b, κ.o, none⟩) (nl κ.v) κ.c] h (.agg #[.bool (s && decide (0 < κ.v)), .bool false, .slice (some ⟨κ.b, κ.o, none⟩) (nl κ.v) κ.c]) [] [i] :=
  call_arP (qs := [.pl (.bool s), .at_ κ]) [i] i (.inl hi) (.inl (List.mem_singleton.2 rfl)) (Try.call80) (fun _ _ => ⟨.pl rfl, .at_ hκ, trivial⟩) rfl fun w xs hx => by
    rcases xs with _ | ⟨x, _ | ⟨y, _ | ⟨z, xs⟩⟩⟩ <;> first | exact hx.elim | exact hx.2.elim | exact hx.2.2.elim | skip
    obtain ⟨h1, h2, _⟩ := hx
    cases h1 with
    | pl hp => cases h2 with
      | at_ ha => exact wMade s κ w ha
set_option maxRecDepth 100000 in
set_option maxHeartbeats 2000000 in
theorem cROfNeg (n K : Nat) (h : List (Option Chunk)) (h0 : h[K]? = some none) (hn : n ≤ 9223372036854775808) (hp : 0 < n) :
    CallOK Try.prog 52 [.int .i64 (-(n : Int))] h (.agg #[.bool true, .bool false, .slice (some ⟨K, 0, some 0⟩) (nl n) 2]) [(K, numC true 2 n)] [] := by
  have h2 := two_words (n := n) (by omega)
  have hu : IntKind.u64.wrap (0 - IntKind.u64.wrap (-(n : Int))) = (n : Int) := by rw [IntKind.wrap_u64, IntKind.wrap_u64]; omega
  refine call_sub (G := tys) [] [⟨K, 1, numC true 2 n⟩] [.int .i64 (-(n : Int))] tysOK mixed Try.func52 (by rfl) (Try.call52) trivial trivial trivial ⟨⟨h0, rfl, by show 0 < 2; decide, by simp⟩, trivial⟩ ⟨.plain rfl, trivial⟩ ?_
  repeat' (refine N.go ?_; first | with_reducible (first | refine N.obl (by decide) ?_ | refine N.eq ?_ | refine N.obl rfl ?_ | refine N.obl ⟨by kernel_rfl, by kernel_rfl⟩ ?_ | refine N.alt ?_ | refine N.forkT ?_ | refine N.forkF ?_) | refine N.call (cMade32 n 2 2 _ (decide (-(n : Int) < 0)) true (by rw [decide_eq_true (show -(n : Int) < 0 by omega), decide_eq_true hp]; rfl) _ _ (by rfl) (isNum2 (by rw [hu, w32]) (by rw [hu, fd32, w32])) (by omega) (by omega) h2.1) ?_ | refine N.forkNo (by decide) ?_ | refine N.forkYes (by decide) ?_ | refine N.forkYes (by rw [decide_eq_true_eq]; omega) ?_ | refine N.forkNo (by rw [decide_eq_false_iff_not]; omega) ?_ | refine N.obl (.one (.agg ⟨.plain (by rfl), .plain rfl, .slice (by rfl), trivial⟩)) ?_ | refine N.obl ⟨⟨Nat.zero_le _, post_num (by rfl) rfl (isNum2 (by rw [hu, w32]) (by rw [hu, fd32, w32]))⟩, trivial⟩ ?_ | refine N.obl trivial ?_ | exact N.true | fail)
theorem wOf (z : Int) (hz : -9223372036854775808 ≤ z ∧ z < 9223372036854775808) (w : World) (xs : List Value) (hx : All2 (AR w) [.pl (.int .i64 z)] xs) : Mk Try.prog 52 xs w z.natAbs (bzW z) := by
  obtain rfl := ar_pl1 hx
  have hn2 : nl z.natAbs ≤ 2 := (two_words (n := z.natAbs) (by omega)).2
  by_cases hs : z < 0
  · obtain ⟨n, rfl⟩ : ∃ n : Nat, z = -(n : Int) := ⟨z.natAbs, by omega⟩
    have e1 : (-(n : Int)).natAbs = n := by omega
    rw [e1] at hn2 ⊢
    refine num_new (V := fun K => .agg #[.bool true, .bool false, .slice (some ⟨K, 0, some 0⟩) (nl n) 2]) (es := []) (Try.call52) (fun e he => by cases he) (vs := [.int .i64 (-(n : Int))]) (xs := [.int .i64 (-(n : Int))]) ⟨.pl rfl, trivial⟩ ⟨by decide, by decide⟩ hn2 (bzW (-(n : Int))) (fun r => ?_) (cROfNeg n 0 _ rfl (by omega) (by omega))
    rw [bzW, decide_eq_true hs]; simp only [den, den2, List.map_toArray, List.map_cons, List.map_nil, den1, den0, denA, Nat.add_zero]
  · obtain ⟨n, rfl⟩ : ∃ n : Nat, z = (n : Int) := ⟨z.natAbs, by omega⟩
    have e1 : ((n : Int)).natAbs = n := by omega
    rw [e1] at hn2 ⊢
    refine num_new (V := fun K => .agg #[.bool false, .bool false, .slice (some ⟨K, 0, some 0⟩) (nl n) 2]) (es := []) (Try.call52) (fun e he => by cases he) (vs := [.int .i64 (n : Int)]) (xs := [.int .i64 (n : Int)]) ⟨.pl rfl, trivial⟩ ⟨by decide, by decide⟩ hn2 (bzW (n : Int)) (fun r => ?_) (cROf n 0 _ rfl (by omega))
    rw [bzW, decide_eq_false hs]; simp only [den, den2, List.map_toArray, List.map_cons, List.map_nil, den1, den0, denA, Nat.add_zero]
set_option maxRecDepth 100000 in
set_option maxHeartbeats 2000000 in
theorem cRNegC (v m i : Nat) (s r : Bool) (hr : r = (!s && decide (0 < v))) (o : Chunk) (h : List (Option Chunk)) (hi : h[i]? = some (some o)) (hin : IsNum o m v) (hl : nl v ≤ m) (hm : m ≤ 31) :
    CallOK Try.prog 85 [.agg #[.bool s, .bool false, .slice (some ⟨i, 0, some 0⟩) (nl v) m]] h (.agg #[.bool r, .bool false, .slice (some ⟨i, 0, some 0⟩) (nl v) m]) [] [i] := by
  refine call_sub (G := tys) [⟨i, _, numC false m v, ⟨false, 0, []⟩⟩] [] [.agg #[.bool s, .bool false, .slice (some ⟨0, 0, some 0⟩) (nl v) m]] tysOK mixed Try.func85 (by rfl) (Try.call85) ⟨hi, trivial⟩ ⟨⟨fun h => (by cases h), Nat.le_of_eq hin.1.symm, num_re hin⟩, trivial⟩ (by simp [Apart]) trivial ⟨.agg ⟨.plain rfl, .plain rfl, .slice rfl, trivial⟩, trivial⟩ ?_
  repeat' (refine N.go ?_; first | with_reducible (first | refine N.obl (by decide) ?_ | refine N.eq ?_ | refine N.obl rfl ?_ | refine N.obl ⟨by kernel_rfl, by kernel_rfl⟩ ?_ | refine N.alt ?_ | refine N.forkT ?_ | refine N.forkF ?_) | refine N.call (cMade32 v m (nl v) _ (!s) r hr _ _ (by rfl) (isNum _ _ _) hl hm (nl_self v)) ?_ | refine N.forkNo (by decide) ?_ | refine N.forkYes (by decide) ?_ | refine N.obl (.one (.agg ⟨.plain (by rfl), .plain rfl, .slice (by rfl), trivial⟩)) ?_ | refine N.obl trivial ?_ | exact N.true | fail)
/-- Sign of a number: its words are not read. -/
def sgnI (z : Int) : Int := if z < 0 then -1 else if z = 0 then 0 else 1
theorem sign_x (z : Int) (v b o c : Nat) (hv : v = z.natAbs) (w : World) : Calls Try.prog 36 #[.agg #[.bool (decide (z < 0)), .bool false, .slice (some ⟨b, o, none⟩) (nl v) c]] w fun e w' => e = .returned (.int .i64 (sgnI z)) ∧ Below w.heap.size w w' := by
  refine calls_pure (G := tys) w tysOK mixed Try.func36 (by rfl) (by rfl) (by rfl) ?_
  subst hv
  rcases Int.lt_trichotomy z 0 with h | h | h
  · have e1 : sgnI z = -1 := by unfold sgnI; rw [if_pos h]
    have e2 : nl z.natAbs ≠ 0 := fun e => by have := nl0 e; omega
    rw [e1]
    repeat' (refine N.go ?_; first | with_reducible (first | refine N.obl (by decide) ?_ | refine N.eq ?_ | refine N.obl rfl ?_ | refine N.obl ⟨by kernel_rfl, by kernel_rfl⟩ ?_ | refine N.alt ?_ | refine N.forkT ?_ | refine N.forkF ?_) | refine N.forkYes (by rw [e2]; rfl) ?_ | refine N.forkNo (by simpa using e2) ?_ | refine N.forkYes (decide_eq_true (by omega)) ?_ | refine N.forkNo (decide_eq_false (by omega)) ?_ | refine N.forkNo (by decide) ?_ | refine N.forkYes (by decide) ?_ | refine N.forkYes (by rw [decide_eq_true_eq]; omega) ?_ | refine N.forkNo (by rw [decide_eq_false_iff_not]; omega) ?_ | fail)
    all_goals rfl
  · have e1 : sgnI z = 0 := by unfold sgnI; rw [if_neg (by omega), if_pos h]
    have e2 : nl z.natAbs = 0 := by rw [h]; exact nl_zero
    rw [e1]
    repeat' (refine N.go ?_; first | with_reducible (first | refine N.obl (by decide) ?_ | refine N.eq ?_ | refine N.obl rfl ?_ | refine N.obl ⟨by kernel_rfl, by kernel_rfl⟩ ?_ | refine N.alt ?_ | refine N.forkT ?_ | refine N.forkF ?_) | refine N.forkYes (by rw [e2]; rfl) ?_ | refine N.forkNo (by simpa using e2) ?_ | refine N.forkYes (decide_eq_true (by omega)) ?_ | refine N.forkNo (decide_eq_false (by omega)) ?_ | refine N.forkNo (by decide) ?_ | refine N.forkYes (by decide) ?_ | refine N.forkYes (by rw [decide_eq_true_eq]; omega) ?_ | refine N.forkNo (by rw [decide_eq_false_iff_not]; omega) ?_ | fail)
    all_goals rfl
  · have e1 : sgnI z = 1 := by unfold sgnI; rw [if_neg (by omega), if_neg (by omega)]
    have e2 : nl z.natAbs ≠ 0 := fun e => by have := nl0 e; omega
    rw [e1]
    repeat' (refine N.go ?_; first | with_reducible (first | refine N.obl (by decide) ?_ | refine N.eq ?_ | refine N.obl rfl ?_ | refine N.obl ⟨by kernel_rfl, by kernel_rfl⟩ ?_ | refine N.alt ?_ | refine N.forkT ?_ | refine N.forkF ?_) | refine N.forkYes (by rw [e2]; rfl) ?_ | refine N.forkNo (by simpa using e2) ?_ | refine N.forkYes (decide_eq_true (by omega)) ?_ | refine N.forkNo (decide_eq_false (by omega)) ?_ | refine N.forkNo (by decide) ?_ | refine N.forkYes (by decide) ?_ | refine N.forkYes (by rw [decide_eq_true_eq]; omega) ?_ | refine N.forkNo (by rw [decide_eq_false_iff_not]; omega) ?_ | fail)
    all_goals rfl
theorem cASign (z : Int) (v b o c : Nat) (hv : v = z.natAbs) (h : List (Option Chunk)) : CallOK Try.prog 36 [.agg #[.bool (decide (z < 0)), .bool false, .slice (some ⟨b, o, none⟩) (nl v) c]] h (.int .i64 (sgnI z)) [] [] := call_pure rfl rfl (Try.call36 _) (sign_x z v b o c hv)
theorem sgn_mul (x y : Int) : ((decide (x < 0) != decide (y < 0)) && decide (0 < x.natAbs * y.natAbs)) = decide (x * y < 0) := by
  rcases Int.lt_trichotomy x 0 with h | h | h <;> rcases Int.lt_trichotomy y 0 with k | k | k
  all_goals first
    | (subst h; simp; done)
    | (subst k; simp; done)
    | (have h1 : 0 < x.natAbs * y.natAbs := Nat.mul_pos (by omega) (by omega)
       rw [decide_eq_true h1, Bool.and_true]
       first
         | (rw [decide_eq_true h, decide_eq_true k, decide_eq_false (by have := Int.mul_pos_of_neg_of_neg h k; omega)]; rfl)
         | (rw [decide_eq_true h, decide_eq_false (by omega : ¬ y < 0), decide_eq_true (Int.mul_neg_of_neg_of_pos h k)]; rfl)
         | (rw [decide_eq_false (by omega : ¬ x < 0), decide_eq_true k, decide_eq_true (Int.mul_neg_of_pos_of_neg h k)]; rfl)
         | (rw [decide_eq_false (by omega : ¬ x < 0), decide_eq_false (by omega : ¬ y < 0), decide_eq_false (by have := Int.mul_pos h k; omega)]; rfl))
set_option maxRecDepth 100000 in
set_option maxHeartbeats 2000000 in
theorem wMul (x y : Int) (hb : nl x.natAbs + nl y.natAbs ≤ 31) (w : World) (xs : List Value) (hx : All2 (AR w) [bz x, bz y] xs) : Mk Try.prog 50 xs w (x * y).natAbs (bzW (x * y)) := by
  obtain ⟨e, e', rfl, h1, v1, h2, v2⟩ := ar_big2 hx
  have hm : (x * y).natAbs = e.v * e'.v := by rw [v1, v2]; exact Int.natAbs_mul x y
  refine calls_nums (es := [e, e']) (vs := [.agg #[.bool (decide (x < 0)), .bool false, .slice (some ⟨0, 0, some 0⟩) (nl e.v) e.c], .agg #[.bool (decide (y < 0)), .bool false, .slice (some ⟨1, 0, some 0⟩) (nl e'.v) e'.c]]) (xs := [e.big (decide (x < 0)), e'.big (decide (y < 0))]) w tysOK mixed Try.func50 (by rfl) (two_at h1 h2) ⟨.big rfl, .big rfl, trivial⟩ (fun _ => rfl) ?_
  repeat' (refine N.go ?_; first | with_reducible (first | refine N.obl (by decide) ?_ | refine N.eq ?_ | refine N.obl rfl ?_ | refine N.obl ⟨by kernel_rfl, by kernel_rfl⟩ ?_ | refine N.forkT ?_ | refine N.forkF ?_) | refine N.forkNo (by decide) ?_ | refine N.forkYes (by decide) ?_ | fail)
  refine N.go ?_
  refine N.altP ?_
  refine N.go ?_
  refine N.plan [0, 1, 2, 3, 4, 5, 6, 7, 8] [(9, [10, 11])] (by kernel_rfl) ?_
  repeat' (refine N.go ?_; first | with_reducible (first | refine N.obl (by decide) ?_ | refine N.eq ?_ | refine N.obl rfl ?_ | refine N.obl ⟨by kernel_rfl, by kernel_rfl⟩ ?_ | refine N.forkT ?_ | refine N.forkF ?_) | refine N.forkNo (by decide) ?_ | refine N.forkYes (by decide) ?_ | fail)
  refine N.go ?_
  refine N_callM [0, 1, 5] _ (by kernel_rfl) (fun h₂ hh => mk_arN 5 ((hh 5 (by simp)).trans rfl) (e.v * e'.v) Nm.sl (Try.call82) (qs := [.sl e.v, .sl e'.v]) ⟨.sl (.ch ((hh 0 (by simp)).trans rfl) (isNum _ _ _) h1.len h1.cap), .sl (.ch ((hh 1 (by simp)).trans rfl) (isNum _ _ _) h2.len h2.cap), trivial⟩ (fun _ => rfl) (wTimes e.v e'.v (by rw [v1, v2]; exact hb))) fun v ms hR => ?_
  obtain ⟨κ, hκ, rfl, rfl⟩ := hR
  refine ⟨by simp, ?_⟩
  have hsg : ((decide (x < 0) != decide (y < 0)) && decide (0 < κ.v)) = decide (x * y < 0) := by rw [hκ, v1, v2, sgn_mul]
  repeat' (refine N.go ?_; first | with_reducible (first | refine N.obl (by decide) ?_ | refine N.eq ?_ | refine N.obl rfl ?_ | refine N.obl ⟨by kernel_rfl, by kernel_rfl⟩ ?_ | refine N.forkT ?_ | refine N.forkF ?_) | refine N.call (cAMade _ κ 5 (by rfl) (List.mem_singleton.2 rfl)) ?_ | refine N.obl (by show endB _ _ = Bool.true; kernel_rfl) ?_ | refine N.endM κ 5 (hκ.trans hm.symm) (by rw [hsg]) (by rfl) (List.mem_singleton.2 rfl) | refine N.forkNo (by decide) ?_ | refine N.forkYes (by decide) ?_ | fail)
theorem cBCmp (a b : Nat) (i j m q : Nat) (h : List (Option Chunk)) {o o2 : Chunk} (hi : h[i]? = some (some o)) (hin : IsNum o m a) (hj : h[j]? = some (some o2)) (hjn : IsNum o2 q b) (hl : nl a ≤ m) (hm : m ≤ 31) (hl2 : nl b ≤ q) (hq : q ≤ 31) :
    CallOK Try.prog 79 [.slice (some ⟨i, 0, some 0⟩) (nl a) m, .slice (some ⟨j, 0, some 0⟩) (nl b) q] h (.int .i64 (cmpN a b)) [] [i, j] := cCmp a b m q i j o o2 h hi hin hj hjn hl (by omega) hl2 (by omega)
set_option maxRecDepth 100000 in
set_option maxHeartbeats 2000000 in
theorem wAdd (x y : Int) (a b : Nat) (hxa : a = x.natAbs) (hyb : b = y.natAbs) (ha : nl a ≤ 30) (hb : nl b ≤ 30) (w : World) (xs : List Value) (hx : All2 (AR w) [.big (decide (x < 0)) a, .big (decide (y < 0)) b] xs) : Mk Try.prog 51 xs w (x + y).natAbs (bzW (x + y)) := by
  obtain ⟨e, e', rfl, h1, v1, h2, v2⟩ := ar_big2 hx
  have q1 := h1.cap
  have q2 := h2.cap
  refine calls_nums (es := [e, e']) (vs := [.agg #[.bool (decide (x < 0)), .bool false, .slice (some ⟨0, 0, some 0⟩) (nl e.v) e.c], .agg #[.bool (decide (y < 0)), .bool false, .slice (some ⟨1, 0, some 0⟩) (nl e'.v) e'.c]]) (xs := [e.big (decide (x < 0)), e'.big (decide (y < 0))]) w tysOK mixed Try.func51 (by rfl) (two_at h1 h2) ⟨.big rfl, .big rfl, trivial⟩ (fun _ => rfl) ?_
  repeat' (refine N.go ?_; first | with_reducible (first | refine N.obl (by decide) ?_ | refine N.eq ?_ | refine N.obl rfl ?_ | refine N.obl ⟨by kernel_rfl, by kernel_rfl⟩ ?_ | refine N.forkT ?_ | refine N.forkF ?_) | refine N.forkNo (by decide) ?_ | refine N.forkYes (by decide) ?_ | fail)
  refine N.go ?_
  by_cases hs : decide (x < 0) = decide (y < 0)
  · refine N.forkYes (by rw [hs]; simp) ?_
    refine N.go ?_
    refine N.altP ?_
    refine N.go ?_
    refine N.plan [0, 1, 2, 3, 4, 5] [(6, [7, 8])] (by kernel_rfl) ?_
    repeat' (refine N.go ?_; first | with_reducible (first | refine N.obl (by decide) ?_ | refine N.eq ?_ | refine N.obl rfl ?_ | refine N.obl ⟨by kernel_rfl, by kernel_rfl⟩ ?_ | refine N.forkT ?_ | refine N.forkF ?_) | refine N.forkNo (by decide) ?_ | refine N.forkYes (by decide) ?_ | fail)
    refine N.go ?_
    refine N_callM [0, 1, 5] _ (by kernel_rfl) (fun h₂ hh => mk_arN 5 ((hh 5 (by simp)).trans rfl) (e.v + e'.v) Nm.sl (Try.call78) (qs := [.sl e.v, .sl e'.v]) ⟨.sl (.ch ((hh 0 (by simp)).trans rfl) (isNum _ _ _) h1.len h1.cap), .sl (.ch ((hh 1 (by simp)).trans rfl) (isNum _ _ _) h2.len h2.cap), trivial⟩ (fun _ => rfl) (wPlus e.v e'.v (by rw [v1]; exact ha) (by rw [v2]; exact hb))) fun v ms hR => ?_
    obtain ⟨κ, hκ, rfl, rfl⟩ := hR
    refine ⟨by simp, ?_⟩
    have hsg : (decide (x < 0) && decide (0 < κ.v)) = decide (x + y < 0) := by
      rw [hκ, v1, v2, hxa, hyb]
      rw [decide_eq_decide] at hs
      rw [Bool.eq_iff_iff, Bool.and_eq_true, decide_eq_true_iff, decide_eq_true_iff, decide_eq_true_iff]; omega
    have hv : e.v + e'.v = (x + y).natAbs := by rw [v1, v2, hxa, hyb]; rw [decide_eq_decide] at hs; omega
    repeat' (refine N.go ?_; first | with_reducible (first | refine N.obl (by decide) ?_ | refine N.eq ?_ | refine N.obl rfl ?_ | refine N.obl ⟨by kernel_rfl, by kernel_rfl⟩ ?_ | refine N.forkT ?_ | refine N.forkF ?_) | refine N.call (cAMade _ κ 5 (by rfl) (List.mem_singleton.2 rfl)) ?_ | refine N.obl (by show endB _ _ = Bool.true; kernel_rfl) ?_ | refine N.endM κ 5 (hκ.trans hv) (by rw [hsg]) (by rfl) (List.mem_singleton.2 rfl) | refine N.forkNo (by decide) ?_ | refine N.forkYes (by decide) ?_ | fail)
  · refine N.forkNo (by simpa using hs) ?_
    refine N.go ?_
    refine N.call (cBCmp e.v e'.v 0 1 e.c e'.c _ (by rfl) (isNum _ _ _) (by rfl) (isNum _ _ _) h1.len h1.cap h2.len h2.cap) ?_
    repeat' (refine N.go ?_; first | with_reducible (first | refine N.obl (by decide) ?_ | refine N.eq ?_ | refine N.obl rfl ?_ | refine N.obl ⟨by kernel_rfl, by kernel_rfl⟩ ?_ | refine N.forkT ?_ | refine N.forkF ?_) | refine N.forkNo (by decide) ?_ | refine N.forkYes (by decide) ?_ | fail)
    refine N.go ?_
    by_cases hle : e'.v ≤ e.v
    · refine N.forkYes (by rw [decide_eq_true_eq]; unfold cmpN; rw [if_neg (by omega)]; split <;> decide) ?_
      refine N.go ?_
      refine N.altP ?_
      refine N.go ?_
      refine N.plan [0, 1, 2, 3, 4, 5] [(6, [7, 8])] (by kernel_rfl) ?_
      repeat' (refine N.go ?_; first | with_reducible (first | refine N.obl (by decide) ?_ | refine N.eq ?_ | refine N.obl rfl ?_ | refine N.obl ⟨by kernel_rfl, by kernel_rfl⟩ ?_ | refine N.forkT ?_ | refine N.forkF ?_) | refine N.forkNo (by decide) ?_ | refine N.forkYes (by decide) ?_ | fail)
      refine N.go ?_
      refine N_callM [0, 1, 5] _ (by kernel_rfl) (fun h₂ hh => mk_arN 5 ((hh 5 (by simp)).trans rfl) (e.v - e'.v) Nm.sl (Try.call83) (qs := [.sl e.v, .sl e'.v]) ⟨.sl (.ch ((hh 0 (by simp)).trans rfl) (isNum _ _ _) h1.len h1.cap), .sl (.ch ((hh 1 (by simp)).trans rfl) (isNum _ _ _) h2.len h2.cap), trivial⟩ (fun _ => rfl) (wMinus e.v e'.v hle)) fun v ms hR => ?_
      obtain ⟨κ, hκ, rfl, rfl⟩ := hR
      refine ⟨by simp, ?_⟩
      have hsg : (decide (x < 0) && decide (0 < κ.v)) = decide (x + y < 0) := by
        rw [hκ]
        rw [v1, v2, hxa, hyb] at hle ⊢
        rw [decide_eq_decide] at hs
        rw [Bool.eq_iff_iff, Bool.and_eq_true, decide_eq_true_iff, decide_eq_true_iff, decide_eq_true_iff]; omega
      have hv : e.v - e'.v = (x + y).natAbs := by rw [v1, v2, hxa, hyb] at hle ⊢; rw [decide_eq_decide] at hs; omega
      repeat' (refine N.go ?_; first | with_reducible (first | refine N.obl (by decide) ?_ | refine N.eq ?_ | refine N.obl rfl ?_ | refine N.obl ⟨by kernel_rfl, by kernel_rfl⟩ ?_ | refine N.forkT ?_ | refine N.forkF ?_) | refine N.call (cAMade _ κ 5 (by rfl) (List.mem_singleton.2 rfl)) ?_ | refine N.obl (by show endB _ _ = Bool.true; kernel_rfl) ?_ | refine N.endM κ 5 (hκ.trans hv) (by rw [hsg]) (by rfl) (List.mem_singleton.2 rfl) | refine N.forkNo (by decide) ?_ | refine N.forkYes (by decide) ?_ | fail)
    · refine N.forkNo (by rw [decide_eq_false_iff_not]; unfold cmpN; rw [if_pos (by omega)]; decide) ?_
      refine N.go ?_
      refine N.altP ?_
      refine N.go ?_
      refine N.plan [0, 1, 2, 3, 4, 5] [(6, [7, 8])] (by kernel_rfl) ?_
      repeat' (refine N.go ?_; first | with_reducible (first | refine N.obl (by decide) ?_ | refine N.eq ?_ | refine N.obl rfl ?_ | refine N.obl ⟨by kernel_rfl, by kernel_rfl⟩ ?_ | refine N.forkT ?_ | refine N.forkF ?_) | refine N.forkNo (by decide) ?_ | refine N.forkYes (by decide) ?_ | fail)
      refine N.go ?_
      refine N_callM [0, 1, 5] _ (by kernel_rfl) (fun h₂ hh => mk_arN 5 ((hh 5 (by simp)).trans rfl) (e'.v - e.v) Nm.sl (Try.call83) (qs := [.sl e'.v, .sl e.v]) ⟨.sl (.ch ((hh 1 (by simp)).trans rfl) (isNum _ _ _) h2.len h2.cap), .sl (.ch ((hh 0 (by simp)).trans rfl) (isNum _ _ _) h1.len h1.cap), trivial⟩ (fun _ => rfl) (wMinus e'.v e.v (by omega))) fun v ms hR => ?_
      obtain ⟨κ, hκ, rfl, rfl⟩ := hR
      refine ⟨by simp, ?_⟩
      have hsg : (decide (y < 0) && decide (0 < κ.v)) = decide (x + y < 0) := by
        rw [hκ]
        rw [v1, v2, hxa, hyb] at hle ⊢
        rw [decide_eq_decide] at hs
        rw [Bool.eq_iff_iff, Bool.and_eq_true, decide_eq_true_iff, decide_eq_true_iff, decide_eq_true_iff]; omega
      have hv : e'.v - e.v = (x + y).natAbs := by rw [v1, v2, hxa, hyb] at hle ⊢; rw [decide_eq_decide] at hs; omega
      repeat' (refine N.go ?_; first | with_reducible (first | refine N.obl (by decide) ?_ | refine N.eq ?_ | refine N.obl rfl ?_ | refine N.obl ⟨by kernel_rfl, by kernel_rfl⟩ ?_ | refine N.forkT ?_ | refine N.forkF ?_) | refine N.call (cAMade _ κ 5 (by rfl) (List.mem_singleton.2 rfl)) ?_ | refine N.obl (by show endB _ _ = Bool.true; kernel_rfl) ?_ | refine N.endM κ 5 (hκ.trans hv) (by rw [hsg]) (by rfl) (List.mem_singleton.2 rfl) | refine N.forkNo (by decide) ?_ | refine N.forkYes (by decide) ?_ | fail)
set_option maxRecDepth 100000 in
set_option maxHeartbeats 2000000 in
theorem wSub (x y : Int) (a b : Nat) (hxa : a = x.natAbs) (hyb : b = y.natAbs) (ha : nl a ≤ 30) (hb : nl b ≤ 30) (w : World) (xs : List Value) (hx : All2 (AR w) [.big (decide (x < 0)) a, .big (decide (y < 0)) b] xs) : Mk Try.prog 60 xs w (x - y).natAbs (bzW (x - y)) := by
  obtain ⟨e, e', rfl, h1, v1, h2, v2⟩ := ar_big2 hx
  have q1 := h1.cap
  have q2 := h2.cap
  have hng : decide (-y < 0) = (!decide (y < 0) && decide (0 < e'.v)) := by
    rw [v2, hyb, Bool.eq_iff_iff, Bool.and_eq_true, decide_eq_true_iff, decide_eq_true_iff, Bool.not_eq_true', decide_eq_false_iff_not]; omega
  rw [Int.sub_eq_add_neg]
  refine calls_nums (es := [e, e']) (vs := [.agg #[.bool (decide (x < 0)), .bool false, .slice (some ⟨0, 0, some 0⟩) (nl e.v) e.c], .agg #[.bool (decide (y < 0)), .bool false, .slice (some ⟨1, 0, some 0⟩) (nl e'.v) e'.c]]) (xs := [e.big (decide (x < 0)), e'.big (decide (y < 0))]) w tysOK mixed Try.func60 (by rfl) (two_at h1 h2) ⟨.big rfl, .big rfl, trivial⟩ (fun _ => rfl) ?_
  repeat' (refine N.go ?_; first | with_reducible (first | refine N.obl (by decide) ?_ | refine N.eq ?_ | refine N.obl rfl ?_ | refine N.obl ⟨by kernel_rfl, by kernel_rfl⟩ ?_ | refine N.forkT ?_ | refine N.forkF ?_) | refine N.forkNo (by decide) ?_ | refine N.forkYes (by decide) ?_ | fail)
  refine N.go ?_
  refine N.altP ?_
  refine N.go ?_
  refine N.plan [0, 1, 2] [(3, [4])] (by kernel_rfl) ?_
  repeat' (refine N.go ?_; first | with_reducible (first | refine N.obl (by decide) ?_ | refine N.eq ?_ | refine N.obl rfl ?_ | refine N.obl ⟨by kernel_rfl, by kernel_rfl⟩ ?_ | refine N.forkT ?_ | refine N.forkF ?_) | refine N.call (cRNegC e'.v e'.c 1 (decide (y < 0)) (decide (-y < 0)) hng _ _ (by rfl) (isNum _ _ _) h2.len h2.cap) ?_ | refine N.forkNo (by decide) ?_ | refine N.forkYes (by decide) ?_ | fail)
  refine N.go ?_
  refine N_callM [0, 1, 9] _ (by kernel_rfl) (fun h₂ hh => mk_arN 9 ((hh 9 (by simp)).trans rfl) (x + -y).natAbs (bzW (x + -y)) (Try.call51) (qs := [.big (decide (x < 0)) e.v, .big (decide (-y < 0)) e'.v]) ⟨.big (.ch ((hh 0 (by simp)).trans rfl) (isNum _ _ _) h1.len h1.cap), .big (.ch ((hh 1 (by simp)).trans rfl) (isNum _ _ _) h2.len h2.cap), trivial⟩ (fun _ => rfl) (wAdd x (-y) e.v e'.v (by rw [v1, hxa]) (by rw [v2, hyb, Int.natAbs_neg]) (by rw [v1]; exact ha) (by rw [v2]; exact hb))) fun v ms hR => ?_
  obtain ⟨κ, hκ, rfl, rfl⟩ := hR
  refine ⟨by simp, ?_⟩
  repeat' (refine N.go ?_; first | with_reducible (first | refine N.obl (by decide) ?_ | refine N.eq ?_ | refine N.obl rfl ?_ | refine N.obl ⟨by kernel_rfl, by kernel_rfl⟩ ?_ | refine N.forkT ?_ | refine N.forkF ?_) | refine N.obl (by show endB _ _ = Bool.true; kernel_rfl) ?_ | refine N.endM κ 9 hκ rfl (by rfl) (List.mem_singleton.2 rfl) | refine N.forkNo (by decide) ?_ | refine N.forkYes (by decide) ?_ | fail)
set_option maxRecDepth 100000 in
set_option maxHeartbeats 2000000 in
theorem wDet3 (a b d : Int) (had : nl a.natAbs + nl d.natAbs ≤ 30) (hbb : nl b.natAbs + nl b.natAbs ≤ 30) (w : World) (xs : List Value) (hx : All2 (AR w) [bz a, bz b, bz d] xs) : Mk Try.prog 55 xs w (a * d - b * b).natAbs (bzW (a * d - b * b)) := by
  obtain ⟨e, e', e'', rfl, h1, v1, h2, v2, h3, v3⟩ := ar_big3 hx
  have n1 : nl (a * d).natAbs ≤ 30 := by rw [Int.natAbs_mul]; exact Nat.le_trans (nl_le.2 (mul_nl3 _ _)) had
  have n2 : nl (b * b).natAbs ≤ 30 := by rw [Int.natAbs_mul]; exact Nat.le_trans (nl_le.2 (mul_nl3 _ _)) hbb
  refine calls_nums (es := [e, e', e'']) (vs := [.agg #[.bool (decide (a < 0)), .bool false, .slice (some ⟨0, 0, some 0⟩) (nl e.v) e.c], .agg #[.bool (decide (b < 0)), .bool false, .slice (some ⟨1, 0, some 0⟩) (nl e'.v) e'.c], .agg #[.bool (decide (d < 0)), .bool false, .slice (some ⟨2, 0, some 0⟩) (nl e''.v) e''.c]]) (xs := [e.big (decide (a < 0)), e'.big (decide (b < 0)), e''.big (decide (d < 0))]) w tysOK mixed Try.func55 (by rfl) (three_at h1 h2 h3) ⟨.big rfl, .big rfl, .big rfl, trivial⟩ (fun _ => rfl) ?_
  repeat' (refine N.go ?_; first | with_reducible (first | refine N.obl (by decide) ?_ | refine N.eq ?_ | refine N.obl rfl ?_ | refine N.obl ⟨by kernel_rfl, by kernel_rfl⟩ ?_ | refine N.forkT ?_ | refine N.forkF ?_) | refine N.forkNo (by decide) ?_ | refine N.forkYes (by decide) ?_ | fail)
  refine N.go ?_
  refine N.altP ?_
  refine N.go ?_
  refine N.plan [0, 1, 3, 4] [(2, []), (5, []), (6, [7])] (by kernel_rfl) ?_
  repeat' (refine N.go ?_; first | with_reducible (first | refine N.obl (by decide) ?_ | refine N.eq ?_ | refine N.obl rfl ?_ | refine N.obl ⟨by kernel_rfl, by kernel_rfl⟩ ?_ | refine N.forkT ?_ | refine N.forkF ?_) | refine N.forkNo (by decide) ?_ | refine N.forkYes (by decide) ?_ | fail)
  refine N.go ?_
  refine N_callM [0, 2, 7] _ (by kernel_rfl) (fun h₂ hh => mk_arN 7 ((hh 7 (by simp)).trans rfl) (a * d).natAbs (bzW (a * d)) (Try.call50) (qs := [.big (decide (a < 0)) e.v, .big (decide (d < 0)) e''.v]) ⟨.big (.ch ((hh 0 (by simp)).trans rfl) (isNum _ _ _) h1.len h1.cap), .big (.ch ((hh 2 (by simp)).trans rfl) (isNum _ _ _) h3.len h3.cap), trivial⟩ (fun _ => rfl) (by rw [v1, v3]; exact wMul a d (by omega))) fun v ms hR => ?_
  obtain ⟨κ, hκ, rfl, rfl⟩ := hR
  refine ⟨by simp, ?_⟩
  repeat' (refine N.go ?_; first | with_reducible (first | refine N.obl (by decide) ?_ | refine N.eq ?_ | refine N.obl rfl ?_ | refine N.obl ⟨by kernel_rfl, by kernel_rfl⟩ ?_ | refine N.forkT ?_ | refine N.forkF ?_) | refine N.forkNo (by decide) ?_ | refine N.forkYes (by decide) ?_ | fail)
  refine N.go ?_
  refine N_callM [1, 7] _ (by kernel_rfl) (fun h₂ hh => mk_arM 7 ((hh 7 (by simp)).trans rfl) (b * b).natAbs (bzW (b * b)) (Try.call50) (qs := [.big (decide (b < 0)) e'.v, .big (decide (b < 0)) e'.v]) ⟨.big (.ch ((hh 1 (by simp)).trans rfl) (isNum _ _ _) h2.len h2.cap), .big (.ch ((hh 1 (by simp)).trans rfl) (isNum _ _ _) h2.len h2.cap), trivial⟩ (fun _ => rfl) (by rw [v2]; exact wMul b b (by omega))) fun v ms hR => ?_
  obtain ⟨κ', hκ', rfl, rfl⟩ := hR
  refine ⟨by simp, ?_⟩
  repeat' (refine N.go ?_; first | with_reducible (first | refine N.obl (by decide) ?_ | refine N.eq ?_ | refine N.obl rfl ?_ | refine N.obl ⟨by kernel_rfl, by kernel_rfl⟩ ?_ | refine N.forkT ?_ | refine N.forkF ?_) | refine N.forkNo (by decide) ?_ | refine N.forkYes (by decide) ?_ | fail)
  refine N.go ?_
  refine N_callM [7] _ (by kernel_rfl) (fun h₂ hh => mk_arM 7 ((hh 7 (by simp)).trans rfl) (a * d - b * b).natAbs (bzW (a * d - b * b)) (Try.call60) (qs := [.big (decide (a * d < 0)) κ.v, .big (decide (b * b < 0)) κ'.v]) ⟨.big (.ar (by simp)), .big (.ar (by simp)), trivial⟩ (fun _ => rfl) (wSub (a * d) (b * b) κ.v κ'.v hκ hκ' (by rw [hκ]; exact n1) (by rw [hκ']; exact n2))) fun v ms hR => ?_
  obtain ⟨κ3, hκ3, rfl, rfl⟩ := hR
  refine ⟨by simp, ?_⟩
  repeat' (refine N.go ?_; first | with_reducible (first | refine N.obl (by decide) ?_ | refine N.eq ?_ | refine N.obl rfl ?_ | refine N.obl ⟨by kernel_rfl, by kernel_rfl⟩ ?_ | refine N.forkT ?_ | refine N.forkF ?_) | refine N.obl (by show endB _ _ = Bool.true; kernel_rfl) ?_ | refine N.endM κ3 7 hκ3 rfl (by rfl) (by simp) | refine N.forkNo (by decide) ?_ | refine N.forkYes (by decide) ?_ | fail)
set_option maxRecDepth 100000 in
set_option maxHeartbeats 2000000 in
theorem wDet (a b d : Int) (ha : -9223372036854775808 ≤ a ∧ a < 9223372036854775808) (hb : -9223372036854775808 ≤ b ∧ b < 9223372036854775808) (hd : -9223372036854775808 ≤ d ∧ d < 9223372036854775808) (w : World) (xs : List Value) (hx : All2 (AR w) [.pl (.agg #[.int .i64 a, .int .i64 b, .int .i64 d])] xs) : Mk Try.prog 37 xs w (a * d - b * b).natAbs (bzW (a * d - b * b)) := by
  obtain rfl := ar_pl1 hx
  have n1 : nl a.natAbs ≤ 2 := (two_words (n := a.natAbs) (by omega)).2
  have n2 : nl b.natAbs ≤ 2 := (two_words (n := b.natAbs) (by omega)).2
  have n3 : nl d.natAbs ≤ 2 := (two_words (n := d.natAbs) (by omega)).2
  refine calls_nums (es := []) (vs := [.agg #[.int .i64 a, .int .i64 b, .int .i64 d]]) (xs := [.agg #[.int .i64 a, .int .i64 b, .int .i64 d]]) w tysOK mixed Try.func37 (by rfl) (fun e he => by cases he) ⟨.pl rfl, trivial⟩ (fun _ => rfl) ?_
  repeat' (refine N.go ?_; first | with_reducible (first | refine N.obl (by decide) ?_ | refine N.eq ?_ | refine N.obl rfl ?_ | refine N.obl ⟨by kernel_rfl, by kernel_rfl⟩ ?_ | refine N.forkT ?_ | refine N.forkF ?_) | refine N.forkNo (by decide) ?_ | refine N.forkYes (by decide) ?_ | fail)
  refine N.go ?_
  refine N.altP ?_
  refine N.go ?_
  refine N.plan [0, 1, 3, 4, 6, 7] [(2, []), (5, []), (8, []), (9, [10])] (by kernel_rfl) ?_
  repeat' (refine N.go ?_; first | with_reducible (first | refine N.obl (by decide) ?_ | refine N.eq ?_ | refine N.obl rfl ?_ | refine N.obl ⟨by kernel_rfl, by kernel_rfl⟩ ?_ | refine N.forkT ?_ | refine N.forkF ?_) | refine N.forkNo (by decide) ?_ | refine N.forkYes (by decide) ?_ | fail)
  refine N.go ?_
  refine N_callM [2] _ (by kernel_rfl) (fun h₂ hh => mk_arN 2 ((hh 2 (by simp)).trans rfl) a.natAbs (bzW a) (Try.call52) (qs := [.pl (.int .i64 a)]) ⟨.pl rfl, trivial⟩ (fun _ => rfl) (wOf a ha)) fun v ms hR => ?_
  obtain ⟨κ1, hκ1, rfl, rfl⟩ := hR
  refine ⟨by simp, ?_⟩
  repeat' (refine N.go ?_; first | with_reducible (first | refine N.obl (by decide) ?_ | refine N.eq ?_ | refine N.obl rfl ?_ | refine N.obl ⟨by kernel_rfl, by kernel_rfl⟩ ?_ | refine N.forkT ?_ | refine N.forkF ?_) | refine N.forkNo (by decide) ?_ | refine N.forkYes (by decide) ?_ | fail)
  refine N.go ?_
  refine N_callM [2] _ (by kernel_rfl) (fun h₂ hh => mk_arM 2 ((hh 2 (by simp)).trans rfl) b.natAbs (bzW b) (Try.call52) (qs := [.pl (.int .i64 b)]) ⟨.pl rfl, trivial⟩ (fun _ => rfl) (wOf b hb)) fun v ms hR => ?_
  obtain ⟨κ2, hκ2, rfl, rfl⟩ := hR
  refine ⟨by simp, ?_⟩
  repeat' (refine N.go ?_; first | with_reducible (first | refine N.obl (by decide) ?_ | refine N.eq ?_ | refine N.obl rfl ?_ | refine N.obl ⟨by kernel_rfl, by kernel_rfl⟩ ?_ | refine N.forkT ?_ | refine N.forkF ?_) | refine N.forkNo (by decide) ?_ | refine N.forkYes (by decide) ?_ | fail)
  refine N.go ?_
  refine N_callM [2] _ (by kernel_rfl) (fun h₂ hh => mk_arM 2 ((hh 2 (by simp)).trans rfl) d.natAbs (bzW d) (Try.call52) (qs := [.pl (.int .i64 d)]) ⟨.pl rfl, trivial⟩ (fun _ => rfl) (wOf d hd)) fun v ms hR => ?_
  obtain ⟨κ3, hκ3, rfl, rfl⟩ := hR
  refine ⟨by simp, ?_⟩
  repeat' (refine N.go ?_; first | with_reducible (first | refine N.obl (by decide) ?_ | refine N.eq ?_ | refine N.obl rfl ?_ | refine N.obl ⟨by kernel_rfl, by kernel_rfl⟩ ?_ | refine N.forkT ?_ | refine N.forkF ?_) | refine N.forkNo (by decide) ?_ | refine N.forkYes (by decide) ?_ | fail)
  refine N.go ?_
  refine N_callM [2] _ (by kernel_rfl) (fun h₂ hh => mk_arM 2 ((hh 2 (by simp)).trans rfl) (a * d - b * b).natAbs (bzW (a * d - b * b)) (Try.call55) (qs := [.big (decide (a < 0)) κ1.v, .big (decide (b < 0)) κ2.v, .big (decide (d < 0)) κ3.v]) ⟨.big (.ar (by simp)), .big (.ar (by simp)), .big (.ar (by simp)), trivial⟩ (fun _ => rfl) (by rw [hκ1, hκ2, hκ3]; exact wDet3 a b d (by omega) (by omega))) fun v ms hR => ?_
  obtain ⟨κ4, hκ4, rfl, rfl⟩ := hR
  refine ⟨by simp, ?_⟩
  repeat' (refine N.go ?_; first | with_reducible (first | refine N.obl (by decide) ?_ | refine N.eq ?_ | refine N.obl rfl ?_ | refine N.obl ⟨by kernel_rfl, by kernel_rfl⟩ ?_ | refine N.forkT ?_ | refine N.forkF ?_) | refine N.obl (by show endB _ _ = Bool.true; kernel_rfl) ?_ | refine N.endM κ4 2 hκ4 rfl (by rfl) (by simp) | refine N.forkNo (by decide) ?_ | refine N.forkYes (by decide) ?_ | fail)
end Go.Proofs.Ytchfbblpflcniaa


/-
  The walk of the document's quotients by two words.
-/
set_option linter.unusedVariables false
set_option linter.unusedSimpArgs false
namespace Go.Proofs.Ytchfbblpflcniaa
open Go Go.RowKit Sx

theorem App0N.mkq {cj : Chunk} {g m size bytes : Nat} {z : Value} {slot : Nat} {K : Value → List (Nat × Chunk) → Prop} (v : Value) (hr : Reads cj g true (m * size) v) (h0 : 0 < m) (h1 : m ≤ 9223372036854775807) (h2 : m * bytes ≤ 140737488355328)
    (k : ∀ cap, m ≤ cap → K (.slice (some ⟨slot, 0, some 0⟩) m cap) [(slot, grown ⟨true, 0, []⟩ 0 m size v z cap)]) : N (App0N cj g m size bytes z slot K) := N.mk (.inl ⟨v, hr, h0, h1, h2, k⟩)
theorem AppN.mkq {ci : Chunk} {k s l c : Nat} {cj : Chunk} {g m size bytes : Nat} {z : Value} {slot : Nat} {K : Value → List (Nat × Chunk) → Prop} (v : Value) (hr : Reads cj g true (m * size) v) (hf : flatB v (m * size) = true) (hl : l * size ≤ ci.n) (h1 : l + m ≤ 9223372036854775807) (h2 : (l + m) * bytes ≤ 140737488355328)
    (d : Chunk) (hw : l + m ≤ c → Writes ci (l * size) (m * size) v d) (k1 : l + m ≤ c → K (.slice (some ⟨k, 0, some s⟩) (l + m) c) [(k, d)]) (k2 : c < l + m → ∀ cap, l + m ≤ cap → K (.slice (some ⟨slot, 0, some 0⟩) (l + m) cap) [(slot, grown ci l m size v z cap)]) : N (AppN ci k s l c cj g m size bytes z slot K) :=
  N.mk ⟨v, hr, hf, hl, h1, h2, fun h => ⟨d, hw h, k1 h⟩, k2⟩
theorem left_len (a n : Nat) : a * 2 ^ n < bw (nl a + n / 32 + 1) := by
  have e2n : 2 ^ n = bw (n / 32) * 2 ^ (n % 32) := by rw [bw_two, ← Nat.pow_add]; congr 1; omega
  rw [e2n, bw_add, bw_add, bw_one, Nat.mul_assoc]
  have h1 := nl_self a
  have h2 : 2 ^ (n % 32) < 4294967296 := pow_word (Nat.mod_lt _ (by decide))
  have h3 : bw (n / 32) * 2 ^ (n % 32) ≤ bw (n / 32) * 4294967296 := Nat.mul_le_mul_left _ (by omega)
  have h4 : 0 < bw (n / 32) * 4294967296 := Nat.mul_pos (bw_pos _) (by decide)
  exact Nat.lt_of_le_of_lt (Nat.mul_le_mul_left _ h3) (Nat.mul_lt_mul_of_pos_right h1 h4)
theorem nl_mono {a b : Nat} (h : a ≤ b) : nl a ≤ nl b := nl_le.2 (Nat.lt_of_le_of_lt h (nl_self b))
theorem writes_zero {c l A p n : Nat} (hp : p = l) (hn : n = 1) (h : l + 1 ≤ c) (hA : lm A l = 0) : Writes (numC true c A) p n (.agg ⟨[.int .u32 0]⟩) (numC true c A) := by
  subst hp hn
  refine ⟨rfl, h, rfl, fun j hj => ?_⟩
  have hj : j < c := hj
  rw [seg_cell hj]
  by_cases hc : p ≤ j ∧ j < p + 1
  · obtain rfl : j = p := by omega
    rw [if_pos hc, Nat.sub_self, hA]; rfl
  · rw [if_neg hc]
abbrev wordsV (n A : Nat) : Value := .agg ⟨segL n (fun j => .int .u32 ((lm A j : Nat) : Int))⟩
theorem reads_words {m n A p k : Nat} (hp : p = 0) (hk : k = n) (h : n ≤ m) : Reads (numC true m A) p true k (wordsV n A) := by
  subst hp hk
  exact reads_seg _ (by omega) (segL_len _ _) fun j hj => by rw [Nat.zero_add, segL_get hj]
theorem num_renE {ix : List (Nat × Nat)} {o : Bool} {m v v' : Nat} (h : v = v') : ChunkReLe ix (numC o m v) (numC o m v') := by subst h; exact num_ren (Nat.le_refl _)
theorem zeros_renE {ix : List (Nat × Nat)} {m v : Nat} (h : v = 0) : ChunkReLe ix (numC true m v) ⟨true, m, [(0, m, .agg ⟨segL m (repZ 1 (.int .u32 0))⟩)]⟩ := by
  subst h
  refine ⟨id, Nat.le_refl _, fun j hj => ?_⟩
  have hj : j < m := hj
  rw [seg_cell hj, seg_cell hj, lm_big (bw_pos j)]
  unfold repZ; rw [Nat.mod_one]; exact .plain rfl
theorem reads_one : Reads ⟨true, 1, [(0, 1, .agg ⟨[.int .u32 0]⟩)]⟩ 0 true (1 * 1) (.agg ⟨[.int .u32 0]⟩) := ⟨Nat.le_refl _, _, rfl, rfl, fun j hj => by
  match j, hj with
  | 0, _ => rfl⟩
structure QU where
  l : Nat
  c : Nat
theorem shift_two (y s : Nat) (hy : nl y = 2) (hs : s ≤ 31) (h1 : lm y 1 * 2 ^ s < 4294967296) (h2 : 2147483648 ≤ lm y 1 * 2 ^ s) : y * 2 ^ s < 18446744073709551616 ∧ 9223372036854775808 ≤ y * 2 ^ s := by
  have hb := nl_self y
  rw [hy] at hb
  have e := up_word y 1
  rw [Nat.div_eq_of_lt hb, Nat.zero_mul, Nat.zero_add] at e
  have hd := Nat.div_add_mod y 4294967296
  rw [show bw 1 = 4294967296 from rfl] at e
  rw [e] at hd
  have hm : y % 4294967296 < 4294967296 := Nat.mod_lt _ (by decide)
  obtain ⟨d, hdd⟩ : ∃ d, 32 = s + d := ⟨32 - s, by omega⟩
  have e32 : (4294967296 : Nat) = 2 ^ s * 2 ^ d := by rw [← Nat.pow_add, ← hdd]
  have hp : 0 < 2 ^ s := Nat.pow_pos (by decide)
  have h3 : lm y 1 < 2 ^ d := by
    rw [e32, Nat.mul_comm] at h1
    exact Nat.lt_of_mul_lt_mul_left h1
  have h4 : (lm y 1 + 1) * 2 ^ s ≤ 4294967296 := by
    rw [e32, Nat.mul_comm]
    exact Nat.mul_le_mul_left _ h3
  have h5 : y * 2 ^ s < (lm y 1 + 1) * 2 ^ s * 4294967296 := by
    rw [Nat.mul_assoc, Nat.mul_comm (2 ^ s), ← Nat.mul_assoc]
    exact Nat.mul_lt_mul_of_pos_right (by omega) hp
  have h6 : lm y 1 * 2 ^ s * 4294967296 ≤ y * 2 ^ s := by
    rw [Nat.mul_assoc, Nat.mul_comm (2 ^ s), ← Nat.mul_assoc]
    exact Nat.mul_le_mul_right _ (by omega)
  generalize lm y 1 * 2 ^ s = X at *
  generalize (lm y 1 + 1) * 2 ^ s = Z at *
  generalize y * 2 ^ s = W at *
  omega
def qY (x2 x1 x0 A j : Nat) : Nat := ((x2 * 4294967296 + x1) * 4294967296 + x0) * bw j + A % bw j
theorem qY_lm {x2 x1 x0 : Nat} (A j p : Nat) (h2 : x2 < 4294967296) (h1 : x1 < 4294967296) (h0 : x0 < 4294967296) : lm (qY x2 x1 x0 A j) p = if p < j then lm A p else if p = j then x0 else if p = j + 1 then x1 else if p = j + 2 then x2 else 0 := by
  obtain ⟨f0, f1, f2, f3⟩ := lm_three x2 x1 x0 h2 h1 h0
  unfold qY
  rw [lm_join]
  by_cases h : p < j
  · rw [if_pos h, if_pos h]
  · rw [if_neg h, if_neg h]
    by_cases ha : p = j
    · rw [if_pos ha, ha, Nat.sub_self, f0]
    · rw [if_neg ha]
      by_cases hb : p = j + 1
      · rw [if_pos hb, hb, show j + 1 - j = 1 from by omega, f1]
      · rw [if_neg hb]
        by_cases hc : p = j + 2
        · rw [if_pos hc, hc, show j + 2 - j = 2 from by omega, f2]
        · rw [if_neg hc, f3 _ (by omega)]
theorem shr32 (x : Nat) : ((x : Nat) : Int).fdiv (2 ^ sh 32 IntKind.u64) = ((x / 4294967296 : Nat) : Int) := by
  rw [show sh 32 IntKind.u64 = 32 from by decide, Int.fdiv_eq_ediv_of_nonneg _ (by decide)]; omega
theorem shr32i (w : Nat) (b : Int) (hw : w < 4294967296) : (((w : Nat) : Int) + b * 4294967296).fdiv (2 ^ sh 32 IntKind.i64) = b := by
  rw [show sh 32 IntKind.i64 = 32 from by decide, Int.fdiv_eq_ediv_of_nonneg _ (by decide)]; omega
theorem qY_0 {x2 x1 x0 : Nat} (A j : Nat) (h2 : x2 < 4294967296) (h1 : x1 < 4294967296) (h0 : x0 < 4294967296) : lm (qY x2 x1 x0 A j) j = x0 := by
  rw [qY_lm A j j h2 h1 h0, if_neg (Nat.lt_irrefl j), if_pos rfl]
theorem qY_1 {x2 x1 x0 : Nat} (A j : Nat) (h2 : x2 < 4294967296) (h1 : x1 < 4294967296) (h0 : x0 < 4294967296) : lm (qY x2 x1 x0 A j) (j + 1) = x1 := by
  rw [qY_lm A j _ h2 h1 h0, if_neg (by omega), if_neg (by omega), if_pos rfl]
theorem qY_2 {x2 x1 x0 : Nat} (A j : Nat) (h2 : x2 < 4294967296) (h1 : x1 < 4294967296) (h0 : x0 < 4294967296) : lm (qY x2 x1 x0 A j) (j + 2) = x2 := by
  rw [qY_lm A j _ h2 h1 h0, if_neg (by omega), if_neg (by omega), if_neg (by omega), if_pos rfl]
theorem qY_set0 {x2 x1 x0 z : Nat} (A j : Nat) (h2 : x2 < 4294967296) (h1 : x1 < 4294967296) (h0 : x0 < 4294967296) (hz : z < 4294967296) (i : Nat) (hi : i ≠ j) : lm (qY x2 x1 z A j) i = lm (qY x2 x1 x0 A j) i := by
  rw [qY_lm A j i h2 h1 h0, qY_lm A j i h2 h1 hz, if_neg hi, if_neg hi]
theorem qY_set1 {x2 x1 x0 z : Nat} (A j : Nat) (h2 : x2 < 4294967296) (h1 : x1 < 4294967296) (h0 : x0 < 4294967296) (hz : z < 4294967296) (i : Nat) (hi : i ≠ j + 1) : lm (qY x2 z x0 A j) i = lm (qY x2 x1 x0 A j) i := by
  rw [qY_lm A j i h2 h1 h0, qY_lm A j i h2 hz h0, if_neg hi, if_neg hi]
theorem qY_set2 {x2 x1 x0 z : Nat} (A j : Nat) (h2 : x2 < 4294967296) (h1 : x1 < 4294967296) (h0 : x0 < 4294967296) (hz : z < 4294967296) (i : Nat) (hi : i ≠ j + 2) : lm (qY z x1 x0 A j) i = lm (qY x2 x1 x0 A j) i := by
  rw [qY_lm A j i h2 h1 h0, qY_lm A j i hz h1 h0, if_neg hi, if_neg hi]
/-- The end of a callee that answers a new number and something else that is plain. -/
def EndQ (h : List (Option Chunk)) (x : Value) (v : Nat) : Prop := ∃ (K m : Nat) (r : Value), x = .tuple #[.slice (some ⟨K, 0, some 0⟩) (nl v) m, r] ∧ h[K]? = some (some (numC true m v)) ∧ (0 < m ∧ m ≤ 31 ∧ nl v ≤ m) ∧ (r = .slice none 0 0 ∨ ∃ k l c, r = .slice (some ⟨k, 0, some 0⟩) l c)
theorem N.endQ0 {h : List (Option Chunk)} {x : Value} {v : Nat} (K m : Nat) (h1 : x = .tuple #[.slice (some ⟨K, 0, some 0⟩) (nl v) m, .slice none 0 0]) (h2 : h[K]? = some (some (numC true m v))) (h3 : 0 < m ∧ m ≤ 31 ∧ nl v ≤ m) : N (EndQ h x v) := N.mk ⟨K, m, _, h1, h2, h3, .inl rfl⟩
theorem N.endQ1 {h : List (Option Chunk)} {x : Value} {v : Nat} (K m k l c : Nat) (h1 : x = .tuple #[.slice (some ⟨K, 0, some 0⟩) (nl v) m, .slice (some ⟨k, 0, some 0⟩) l c]) (h2 : h[K]? = some (some (numC true m v))) (h3 : 0 < m ∧ m ≤ 31 ∧ nl v ≤ m) : N (EndQ h x v) := N.mk ⟨K, m, _, h1, h2, h3, .inr ⟨k, l, c, rfl⟩⟩
/-- What a quotient's callee makes: the quotient, and a rest that is not told. -/
def MkQ (P : Program) (g : FuncId) (xs : List Value) (w : World) (v : Nat) : Prop := Calls P g ⟨xs⟩ w fun e w' => ∃ (κ : Nm) (oa : Option Addr) (l c : Nat), κ.v = v ∧ e = .returned (.tuple #[κ.sl, .slice oa l c]) ∧ plain2 (.slice oa l c) = true ∧ Below w.heap.size w w' ∧ NumAt w' κ ∧ w.heap.size ≤ κ.b
theorem calls_numQ {P : Program} {G : Tys} {f : FuncId} {fn : Func} {c : Code} {vs xs : List Value} {es : List Nm} {v : Nat} {h0 : List (Option Chunk)} (w : World) (hG : TysOK P G) (hm : P.follows .mixedOrders = true) (hf : P.funcs[f]? = some fn) (hb : fn.body = some c) (he : ∀ e ∈ es, NumAt w e) (hx : All2 (NArg es) vs xs) (hh : numH es = h0)
    (hwp : initK vs fn.ntmps fun t => wpC P G 0 c (bodyQ P G fn fun x st => N (EndQ st.h x v)) ⟨t, h0⟩) : MkQ P f xs w v := by
  subst hh
  have H := num_hok (w := w) 0 he
  have hd := narg_den (m := 0) hx
  simp only [List.replicate_zero, List.append_nil] at H hd
  refine (calls_sx (args := ⟨xs⟩) hG hm hf hb H hd hwp).mono ?_
  rintro e w' ⟨ρ', x, st, y, rfl, H', hdx, hq⟩
  obtain ⟨K, m, r, rfl, hk, ⟨h3, h4, h5⟩, h6⟩ := hq.out
  obtain ⟨oa, l, c, hr, hp⟩ : ∃ (oa : Option Addr) (l c : Nat), den2 ρ' r = .slice oa l c ∧ plain2 (.slice oa l c) = true := by
    rcases h6 with rfl | ⟨k, l, c, rfl⟩
    · exact ⟨none, 0, 0, rfl, rfl⟩
    · exact ⟨_, l, c, rfl, rfl⟩
  refine ⟨⟨v, (ρ' K).1, (ρ' K).2, m⟩, oa, l, c, rfl, ?_, hp, H'.evo.below, ⟨H'.lt _ _ hk, h5, h4, fun j hj => ?_⟩, ?_⟩
  · rw [← hdx.self, ← hr]
    simp only [den, den2, List.map_toArray, List.map_cons, List.map_nil, den1, den0, denA, Nat.add_zero]
  · obtain ⟨y, hy, hyd⟩ := H'.cell _ _ hk j hj
    rw [seg_cell hj] at hyd
    rw [hy, ← hyd.self]; rfl
  · rcases (H'.own _ _ hk rfl 0 h3).2 with h1 | h1
    · exact h1
    · exact h1.elim
set_option maxRecDepth 100000 in
set_option maxHeartbeats 2000000 in
theorem cTrimC (v m l i : Nat) (o : Chunk) (h : List (Option Chunk)) (hi : h[i]? = some (some o)) (hin : IsNum o m v) (hl : l ≤ m) (hm : l ≤ 1000000) (hv : v < bw l) :
    CallOK Try.prog 91 [.slice (some ⟨i, 0, some 0⟩) l m] h (.slice (some ⟨i, 0, some 0⟩) (nl v) m) [] [i] := by
  refine call_sub (G := tys) [⟨i, _, numC false m v, ⟨false, 0, []⟩⟩] [] [.slice (some ⟨0, 0, some 0⟩) l m] tysOK mixed Try.func91 (by rfl) (Try.call91) ⟨hi, trivial⟩ ⟨⟨fun h => (by cases h), Nat.le_of_eq hin.1.symm, num_re hin⟩, trivial⟩ (by simp [Apart]) trivial ⟨.slice rfl, trivial⟩ ?_
  repeat' (refine N.go ?_; first | with_reducible (first | refine N.obl (by decide) ?_ | refine N.obl (flat_wi _ _ _) ?_ | refine N.obl (flat_lim _ _) ?_ | refine N.eq ?_ | refine N.obl rfl ?_ | refine N.obl ⟨by kernel_rfl, by kernel_rfl⟩ ?_ | refine N.alt ?_ | refine N.forkT ?_ | refine N.forkF ?_) | fail)
  refine N.go ?_
  refine N.loop (α := Nat) (fun x => x ≤ l ∧ v < bw x) (fun x => x) (fun x => [(0, .slice (some ⟨0, 0, some 0⟩) x m)]) (fun _ => []) l ⟨Nat.le_refl _, hv⟩ ?_ ?_
  · repeat (refine N.go ?_; first | exact N.true | with_reducible (first | refine N.obl rfl ?_ | refine N.obl (ChunkLe.refl _) ?_) | refine N.obl (int_i64 (by rw [IntWalk.i64_in _ (by omega)]; rfl)) ?_ |  fail_if_success skip)
  · intro x hx
    obtain ⟨x1, x2⟩ := hx
    rcases Nat.eq_zero_or_pos x with rfl | hp
    · have hv0 : v = 0 := by rw [bw_zero] at x2; omega
      subst hv0
      repeat' (refine N.go ?_; first | with_reducible (first | refine N.obl (by decide) ?_ | refine N.obl (flat_wi _ _ _) ?_ | refine N.obl (flat_lim _ _) ?_ | refine N.eq ?_ | refine N.obl rfl ?_ | refine N.obl ⟨by kernel_rfl, by kernel_rfl⟩ ?_ | refine N.alt ?_ | refine N.forkT ?_ | refine N.forkF ?_) | refine N.forkNo (by decide) ?_ | refine N.forkYes (by decide) ?_ | refine N.obl (re_sl (by rfl) nl_zero) ?_ | refine N.obl trivial ?_ | exact N.true | fail)
    · obtain ⟨y, rfl⟩ : ∃ y, x = y + 1 := ⟨x - 1, by omega⟩
      have e1 : IntKind.i64.wrap (((y + 1 : Nat) : Int) - 1) = (y : Int) := by rw [i64n _ (by omega) (by omega)]; omega
      by_cases h0 : lm v y = 0
      · have x3 := (trim_word x2).1 h0
        repeat' (refine N.go ?_; first | with_reducible (first | refine N.obl (by decide) ?_ | refine N.obl (flat_wi _ _ _) ?_ | refine N.obl (flat_lim _ _) ?_ | refine N.eq ?_ | refine N.obl rfl ?_ | refine N.obl ⟨by kernel_rfl, by kernel_rfl⟩ ?_ | refine N.alt ?_ | refine N.forkT ?_ | refine N.forkF ?_) | refine N.idx y 1 e1 (by omega) ?_ | refine N.load _ (reads_num (p := y) (by omega) (by omega)) ?_ | refine N.forkYes (by rw [h0]; rfl) ?_ | refine N.forkYes (by rw [decide_eq_true_eq]; omega) ?_ | refine N.bnd 0 y 0 ⟨e1, by omega⟩ rfl ?_ | fail)
        refine N.go ?_
        refine N.next y ⟨⟨by omega, x3⟩, by omega⟩ ?_
        repeat (refine N.go ?_; first | exact N.true | with_reducible (first | refine N.obl rfl ?_ | refine N.obl (ChunkLe.refl _) ?_) | refine N.obl (int_i64 (by rw [IntWalk.i64_in _ (by omega)]; rfl)) ?_ | refine N.obl (sl_cut rfl) ?_ |  fail_if_success skip)
      · have x3 : nl v = y + 1 := nl_eq x2 (by rcases Nat.lt_or_ge v (bw y) with h | h; exact absurd (lm_big h) h0; exact h)
        repeat' (refine N.go ?_; first | with_reducible (first | refine N.obl (by decide) ?_ | refine N.obl (flat_wi _ _ _) ?_ | refine N.obl (flat_lim _ _) ?_ | refine N.eq ?_ | refine N.obl rfl ?_ | refine N.obl ⟨by kernel_rfl, by kernel_rfl⟩ ?_ | refine N.alt ?_ | refine N.forkT ?_ | refine N.forkF ?_) | refine N.idx y 1 e1 (by omega) ?_ | refine N.load _ (reads_num (p := y) (by omega) (by omega)) ?_ | refine N.forkNo (by rw [beq_eq_false_iff_ne]; omega) ?_ | refine N.forkYes (by rw [decide_eq_true_eq]; omega) ?_ | refine N.obl (re_sl (by rfl) x3) ?_ | refine N.obl trivial ?_ | exact N.true | fail)
set_option maxRecDepth 100000 in
set_option maxHeartbeats 2000000 in
theorem cRight0 (v s m i : Nat) (o : Chunk) (h : List (Option Chunk)) (hi : h[i]? = some (some o)) (hin : IsNum o m v) (hp : nl v = 0) (hs : s < 32) :
    CallOK Try.prog 77 [.slice (some ⟨i, 0, some 0⟩) (nl v) m, .int .i64 (s : Int)] h (.tuple #[.slice none 0 0, .bool false]) [] [i] := by
  refine call_sub (G := tys) [⟨i, _, numC false m v, ⟨false, 0, []⟩⟩] [] [.slice (some ⟨0, 0, some 0⟩) (nl v) m, .int .i64 (s : Int)] tysOK mixed Try.func77 (by rfl) (Try.call77) ⟨hi, trivial⟩ ⟨⟨fun h => (by cases h), Nat.le_of_eq hin.1.symm, num_re hin⟩, trivial⟩ (by simp [Apart]) trivial ⟨.slice rfl, .plain rfl, trivial⟩ ?_
  rw [hp]
  repeat' (refine N.go ?_; first | with_reducible (first | refine N.obl (by decide) ?_ | refine N.obl (flat_wi _ _ _) ?_ | refine N.obl (flat_lim _ _) ?_ | refine N.eq ?_ | refine N.obl rfl ?_ | refine N.obl ⟨by kernel_rfl, by kernel_rfl⟩ ?_ | refine N.alt ?_ | refine N.forkT ?_ | refine N.forkF ?_) | refine N.forkYes (by rw [decide_eq_true_eq, show IntKind.i64.wrap (32 * ((0 : Nat) : Int)) = 0 from by decide]; omega) ?_ | refine N.forkNo (by decide) ?_ | refine N.forkYes (by decide) ?_ | refine N.forkYes (by rw [decide_eq_true_eq]; omega) ?_ | refine N.forkNo (by rw [decide_eq_false_iff_not]; omega) ?_ | refine N.obl (.plain (by rfl)) ?_ | refine N.obl trivial ?_ | exact N.true | fail)
set_option maxRecDepth 100000 in
set_option maxHeartbeats 2000000 in
theorem quo2_x (a y m q b o b' o' : Nat) (w : World) (h1 : NumAt w ⟨a, b, o, m⟩) (h2 : NumAt w ⟨y, b', o', q⟩) (ha18 : nl a ≤ 18) (hy : nl y = 2) (hge : y ≤ a) :
    MkQ Try.prog 76 [Nm.sl ⟨a, b, o, m⟩, Nm.sl ⟨y, b', o', q⟩] w (a / y) := by
  have hl : nl a ≤ m := h1.len
  have hm : m ≤ 31 := h1.cap
  have hq : 2 ≤ q ∧ q ≤ 31 := ⟨by have : nl y ≤ q := h2.len; omega, h2.cap⟩
  have hcm : (0 : Int) ≤ cmpN a y := by unfold cmpN; rw [if_neg (by omega)]; split <;> decide
  have hna : 2 ≤ nl a := by
    have := nl_self a
    rcases Nat.lt_or_ge (nl a) 2 with h | h
    · have h2 := Nat.lt_of_le_of_lt hge (nl_le.1 (show nl a ≤ 1 by omega))
      have := nl_le.2 h2
      omega
    · exact h
  refine calls_numQ (G := tys) (es := [⟨a, b, o, m⟩, ⟨y, b', o', q⟩]) (vs := [.slice (some ⟨0, 0, some 0⟩) (nl a) m, .slice (some ⟨1, 0, some 0⟩) (nl y) q]) (h0 := [some (numC false m a), some (numC false q y)]) w tysOK mixed Try.func76 (by rfl) (two_at h1 h2) ⟨NArg.sl (k := 0) (e := ⟨a, b, o, m⟩) rfl, NArg.sl (k := 1) (e := ⟨y, b', o', q⟩) rfl, trivial⟩ rfl ?_
  repeat' (refine N.go ?_; first | with_reducible (first | refine N.obl (by decide) ?_ | refine N.obl (flat_wi _ _ _) ?_ | refine N.obl (flat_lim _ _) ?_ | refine N.eq ?_ | refine N.obl rfl ?_ | refine N.obl ⟨by kernel_rfl, by kernel_rfl⟩ ?_ | refine N.alt ?_ | refine N.forkT ?_ | refine N.forkF ?_) | refine N.call (cCmp a y m q _ _ _ _ _ (by rfl) (isNum _ _ _) (by rfl) (isNum _ _ _) hl (by omega) (by omega) (by omega)) ?_ | refine N.forkNo (by rw [decide_eq_false_iff_not]; omega) ?_ | refine N.forkNo (by rw [hy]; decide) ?_ | refine N.idx 1 1 (by rw [hy]; decide) (by omega) ?_ | refine N.load _ (reads_num (p := 1) (by omega) (by omega)) ?_ | refine N.forkNo (by decide) ?_ | refine N.forkYes (by decide) ?_ | refine N.forkYes (by rw [decide_eq_true_eq]; omega) ?_ | refine N.forkNo (by rw [decide_eq_false_iff_not]; omega) ?_ | refine N.obl trivial ?_ | exact N.true | fail)
  refine N.go ?_
  have htop : lm y 1 < 4294967296 := lm_lt y 1
  have ht0 : 0 < lm y 1 := Nat.pos_of_ne_zero (by have h := top_word (v := y) (Nat.pos_of_ne_zero fun e => by rw [e, nl_zero] at hy; cases hy); rw [hy] at h; exact h)
  refine N.loop (α := Nat) (fun s => s ≤ 31 ∧ lm y 1 * 2 ^ s < 4294967296) (fun s => 31 - s) (fun s => [(9, .int .i64 (s : Int)), (10, .int .u32 ((lm y 1 * 2 ^ s : Nat) : Int))]) (fun s => []) 0 ⟨by decide, by rw [Nat.pow_zero, Nat.mul_one]; exact htop⟩ ?_ ?_
  · repeat (refine N.go ?_; first | exact N.true | with_reducible (first | refine N.obl rfl ?_ | refine N.obl (ChunkLe.refl _) ?_) | refine N.obl (int_i64 (by rw [IntWalk.i64_in _ (by omega)]; rfl)) ?_ | refine N.obl (inteq (by rw [Nat.pow_zero, Nat.mul_one])) ?_ |  fail_if_success skip)
  intro s hs
  obtain ⟨hs1, hs2⟩ := hs
  have hps : 2 ^ (s + 1) = 2 ^ s * 2 := Nat.pow_succ ..
  by_cases hc : lm y 1 * 2 ^ s < 2147483648
  · have hs31 : s < 31 := by
      rcases Nat.lt_or_ge s 31 with h | h
      · exact h
      · exfalso
        have := Nat.mul_le_mul ht0 (Nat.pow_le_pow_right (n := 2) (by decide) h)
        omega
    have hx2 : lm y 1 * 2 ^ (s + 1) = lm y 1 * 2 ^ s * 2 := by rw [hps, Nat.mul_assoc]
    generalize hX : lm y 1 * 2 ^ s = X at *
    repeat' (refine N.go ?_; first | with_reducible (first | refine N.obl (by decide) ?_ | refine N.obl (flat_wi _ _ _) ?_ | refine N.obl (flat_lim _ _) ?_ | refine N.eq ?_ | refine N.obl rfl ?_ | refine N.obl ⟨by kernel_rfl, by kernel_rfl⟩ ?_ | refine N.alt ?_ | refine N.forkT ?_ | refine N.forkF ?_) | refine N.forkYes (by rw [decide_eq_true_eq]; omega) ?_ | refine N.forkNo (by decide) ?_ | refine N.forkYes (by decide) ?_ | refine N.forkYes (by rw [decide_eq_true_eq]; omega) ?_ | refine N.forkNo (by rw [decide_eq_false_iff_not]; omega) ?_ | refine N.obl trivial ?_ | exact N.true | fail)
    refine N.go ?_
    refine N.next (s + 1) ⟨⟨by omega, by rw [hx2]; omega⟩, by omega⟩ ?_
    rw [hx2]
    repeat (refine N.go ?_; first | exact N.true | with_reducible (first | refine N.obl rfl ?_ | refine N.obl (ChunkLe.refl _) ?_) | refine N.obl (int_i64 (by rw [IntWalk.i64_in _ (by omega)]; rfl)) ?_ | refine N.obl (inteq (by rw [i64n _ (by omega) (by omega)]; omega)) ?_ | refine N.obl (inteq (by rw [show sh 1 IntKind.u32 = 1 from by decide, IntKind.wrap_u32]; omega)) ?_ |  fail_if_success skip)
  have hs0 : s / 32 = 0 := by omega
  have h31 : 2147483648 ≤ lm y 1 * 2 ^ s := by omega
  obtain ⟨hVl, hVh⟩ := shift_two y s hy hs1 hs2 h31
  have hV2 : nl (y * 2 ^ s) = 2 := nl_eq (show y * 2 ^ s < bw 2 from hVl) (by rw [bw_one]; omega)
  repeat' (refine N.go ?_; first | with_reducible (first | refine N.obl (by decide) ?_ | refine N.obl (flat_wi _ _ _) ?_ | refine N.obl (flat_lim _ _) ?_ | refine N.eq ?_ | refine N.obl rfl ?_ | refine N.obl ⟨by kernel_rfl, by kernel_rfl⟩ ?_ | refine N.alt ?_ | refine N.forkT ?_ | refine N.forkF ?_) | refine N.forkNo (by rw [decide_eq_false_iff_not]; omega) ?_ | refine N.call (cLeftG y s q _ 2 _ rfl _ _ (by rfl) (isNum _ _ _) (by omega) (by omega) (by omega) (by omega) (by rfl)) ?_ | refine N.call (cLeftG a s m _ 3 _ rfl _ _ (by rfl) (isNum _ _ _) hl (by omega) (by omega) (by omega) (by rfl)) ?_ | refine N.forkNo (by decide) ?_ | refine N.forkYes (by decide) ?_ | refine N.forkYes (by rw [decide_eq_true_eq]; omega) ?_ | refine N.forkNo (by rw [decide_eq_false_iff_not]; omega) ?_ | refine N.obl trivial ?_ | exact N.true | fail)
  have hAl : a * 2 ^ s < bw (nl a + 1) := by have := left_len a s; rwa [hs0, Nat.add_zero] at this
  have hAa : a ≤ a * 2 ^ s := Nat.le_mul_of_pos_right _ (Nat.pow_pos (by decide))
  have hA1 : nl a ≤ nl (a * 2 ^ s) := nl_mono hAa
  have hA2 : nl (a * 2 ^ s) ≤ nl a + 1 := nl_le.2 hAl
  rw [hs0]
  obtain ⟨A, hA⟩ : ∃ A, A = a * 2 ^ s := ⟨_, rfl⟩
  obtain ⟨V, hV⟩ : ∃ V, V = y * 2 ^ s := ⟨_, rfl⟩
  rw [← hA] at hAl hAa hA1 hA2 ⊢
  rw [← hV] at hVl hVh hV2 ⊢
  refine N.go ?_
  refine App0N.mkq (wordsV (nl A) A) (reads_words rfl (Nat.mul_one _) (by omega)) (by omega) (by omega) (by show nl A * 4 ≤ _; omega) fun cap hcap => ?_
  repeat' (refine N.go ?_; first | with_reducible (first | refine N.obl (by decide) ?_ | refine N.obl (flat_wi _ _ _) ?_ | refine N.obl (flat_lim _ _) ?_ | refine N.eq ?_ | refine N.obl rfl ?_ | refine N.obl ⟨by kernel_rfl, by kernel_rfl⟩ ?_ | refine N.alt ?_ | refine N.forkT ?_ | refine N.forkF ?_) | refine N.forkNo (by decide) ?_ | refine N.forkYes (by decide) ?_ | refine N.forkYes (by rw [decide_eq_true_eq]; omega) ?_ | refine N.forkNo (by rw [decide_eq_false_iff_not]; omega) ?_ | refine N.obl trivial ?_ | exact N.true | fail)
  refine N.go ?_
  refine N.loopD 4951760157141521099596496896 ?_ ?_
  · repeat (refine N.go ?_; first | exact N.true | with_reducible (first | refine N.obl rfl ?_ | refine N.obl (ChunkLe.refl _) ?_) | refine N.obl (ChunkLe.of rfl) ?_ | fail)
  refine N.go ?_
  refine N.loopR (α := QU) (fun x => nl A ≤ x.l ∧ x.l ≤ nl a + 1 ∧ x.l ≤ x.c) (fun x => nl a + 1 - x.l) (fun x => [(12, .slice (some ⟨7, 0, some 0⟩) x.l x.c)]) (fun x => [(7, numC true x.c A)]) ⟨nl A, cap⟩ [(0, 0), (1, 1), (2, 2), (3, 3), (7, 7)] ⟨Nat.le_refl _, hA2, hcap⟩ ?_ ?_
  · repeat' (refine N.go ?_; first | with_reducible (first | refine N.obl (by decide) ?_ | refine N.obl (flat_wi _ _ _) ?_ | refine N.obl (flat_lim _ _) ?_ | refine N.eq ?_ | refine N.obl rfl ?_ | refine N.obl ⟨by kernel_rfl, by kernel_rfl⟩ ?_ | refine N.alt ?_ | refine N.forkT ?_ | refine N.forkF ?_) | exact N.true | refine N.obl (num_ren (Nat.le_refl _)) ?_ | refine N.obl (num_grown (by rw [Nat.zero_add]; exact hcap) (by rw [Nat.zero_add]; exact nl_self A) (fun j hj => absurd hj (Nat.not_lt_zero j)) (fun j hj => by rw [Nat.zero_add]; exact segL_get hj)) ?_ | refine N.obl (num_grown hcap2 (nl_le.1 (show nl A ≤ l + 1 by omega)) (fun j hj => seg_cell (by show j < c; omega)) (fun j hj => by rw [show j = 0 by omega, Nat.add_zero, lm_big (nl_le.1 hl1)]; rfl)) ?_ | refine N.obl (.plain (by rfl)) ?_ | refine N.obl (.one (.slice (by rfl))) ?_ | refine N.obl (.one (.ptr (by rfl))) ?_ | refine N.obl (ChunkReLe.same (agg_plain (by rfl) (by rfl))) ?_ | fail)
  rintro x ⟨hl1, hl2, hl3⟩
  refine N.go ?_
  generalize x.l = l at *
  generalize x.c = c at *
  by_cases hla : l ≤ nl a
  · refine N.forkYes (by rw [decide_eq_true_eq]; omega) ?_
    repeat' (refine N.go ?_; first | with_reducible (first | refine N.obl (by decide) ?_ | refine N.obl (flat_wi _ _ _) ?_ | refine N.obl (flat_lim _ _) ?_ | refine N.eq ?_ | refine N.obl rfl ?_ | refine N.obl ⟨by kernel_rfl, by kernel_rfl⟩ ?_ | refine N.alt ?_ | refine N.forkT ?_ | refine N.forkF ?_) | refine N.forkNo (by decide) ?_ | refine N.forkYes (by decide) ?_ | refine N.forkYes (by rw [decide_eq_true_eq]; omega) ?_ | refine N.forkNo (by rw [decide_eq_false_iff_not]; omega) ?_ | refine N.obl trivial ?_ | exact N.true | fail)
    refine N.go ?_
    refine AppN.mkq (.agg ⟨[.int .u32 0]⟩) reads_one rfl (by show l * 1 ≤ c; omega) (by omega) (by show (l + 1) * 4 ≤ _; omega) (numC true c A) (fun h => writes_zero (Nat.mul_one _) rfl h (lm_big (nl_le.1 hl1))) (fun h => ?_) (fun h cap2 hcap2 => ?_)
    · repeat' (refine N.go ?_; first | with_reducible (first | refine N.obl (by decide) ?_ | refine N.obl (flat_wi _ _ _) ?_ | refine N.obl (flat_lim _ _) ?_ | refine N.eq ?_ | refine N.obl rfl ?_ | refine N.obl ⟨by kernel_rfl, by kernel_rfl⟩ ?_ | refine N.alt ?_ | refine N.forkT ?_ | refine N.forkF ?_) | refine N.forkNo (by decide) ?_ | refine N.forkYes (by decide) ?_ | refine N.forkYes (by rw [decide_eq_true_eq]; omega) ?_ | refine N.forkNo (by rw [decide_eq_false_iff_not]; omega) ?_ | refine N.obl trivial ?_ | exact N.true | fail)
      refine N.go ?_
      refine N.nextR (α := QU) ⟨l + 1, c⟩ [(0, 0), (1, 1), (2, 2), (3, 3), (7, 7)] ⟨⟨by show nl A ≤ l + 1; omega, by show l + 1 ≤ nl a + 1; omega, h⟩, by show nl a + 1 - (l + 1) < nl a + 1 - l; omega⟩ ?_
      repeat' (refine N.go ?_; first | with_reducible (first | refine N.obl (by decide) ?_ | refine N.obl (flat_wi _ _ _) ?_ | refine N.obl (flat_lim _ _) ?_ | refine N.eq ?_ | refine N.obl rfl ?_ | refine N.obl ⟨by kernel_rfl, by kernel_rfl⟩ ?_ | refine N.alt ?_ | refine N.forkT ?_ | refine N.forkF ?_) | exact N.true | refine N.obl (num_ren (Nat.le_refl _)) ?_ | refine N.obl (num_grown (by rw [Nat.zero_add]; exact hcap) (by rw [Nat.zero_add]; exact nl_self A) (fun j hj => absurd hj (Nat.not_lt_zero j)) (fun j hj => by rw [Nat.zero_add]; exact segL_get hj)) ?_ | refine N.obl (num_grown hcap2 (nl_le.1 (show nl A ≤ l + 1 by omega)) (fun j hj => seg_cell (by show j < c; omega)) (fun j hj => by rw [show j = 0 by omega, Nat.add_zero, lm_big (nl_le.1 hl1)]; rfl)) ?_ | refine N.obl (.plain (by rfl)) ?_ | refine N.obl (.one (.slice (by rfl))) ?_ | refine N.obl (.one (.ptr (by rfl))) ?_ | refine N.obl (ChunkReLe.same (agg_plain (by rfl) (by rfl))) ?_ | fail)
    · repeat' (refine N.go ?_; first | with_reducible (first | refine N.obl (by decide) ?_ | refine N.obl (flat_wi _ _ _) ?_ | refine N.obl (flat_lim _ _) ?_ | refine N.eq ?_ | refine N.obl rfl ?_ | refine N.obl ⟨by kernel_rfl, by kernel_rfl⟩ ?_ | refine N.alt ?_ | refine N.forkT ?_ | refine N.forkF ?_) | refine N.forkNo (by decide) ?_ | refine N.forkYes (by decide) ?_ | refine N.forkYes (by rw [decide_eq_true_eq]; omega) ?_ | refine N.forkNo (by rw [decide_eq_false_iff_not]; omega) ?_ | refine N.obl trivial ?_ | exact N.true | fail)
      refine N.go ?_
      refine N.nextR (α := QU) ⟨l + 1, cap2⟩ [(0, 0), (1, 1), (2, 2), (3, 3), (9, 7)] ⟨⟨by show nl A ≤ l + 1; omega, by show l + 1 ≤ nl a + 1; omega, hcap2⟩, by show nl a + 1 - (l + 1) < nl a + 1 - l; omega⟩ ?_
      repeat' (refine N.go ?_; first | with_reducible (first | refine N.obl (by decide) ?_ | refine N.obl (flat_wi _ _ _) ?_ | refine N.obl (flat_lim _ _) ?_ | refine N.eq ?_ | refine N.obl rfl ?_ | refine N.obl ⟨by kernel_rfl, by kernel_rfl⟩ ?_ | refine N.alt ?_ | refine N.forkT ?_ | refine N.forkF ?_) | exact N.true | refine N.obl (num_ren (Nat.le_refl _)) ?_ | refine N.obl (num_grown (by rw [Nat.zero_add]; exact hcap) (by rw [Nat.zero_add]; exact nl_self A) (fun j hj => absurd hj (Nat.not_lt_zero j)) (fun j hj => by rw [Nat.zero_add]; exact segL_get hj)) ?_ | refine N.obl (num_grown hcap2 (nl_le.1 (show nl A ≤ l + 1 by omega)) (fun j hj => seg_cell (by show j < c; omega)) (fun j hj => by rw [show j = 0 by omega, Nat.add_zero, lm_big (nl_le.1 hl1)]; rfl)) ?_ | refine N.obl (.plain (by rfl)) ?_ | refine N.obl (.one (.slice (by rfl))) ?_ | refine N.obl (.one (.ptr (by rfl))) ?_ | refine N.obl (ChunkReLe.same (agg_plain (by rfl) (by rfl))) ?_ | fail)
  obtain rfl : l = nl a + 1 := by omega
  obtain ⟨M, hM⟩ : ∃ M, nl a = M + 2 := ⟨nl a - 2, by omega⟩
  have eM : IntKind.i64.wrap (IntKind.i64.wrap (((nl a + 1 : Nat) : Int) - ((nl V : Nat) : Int)) - 1) = ((M : Nat) : Int) := by
    rw [hV2, i64n (((nl a + 1 : Nat) : Int) - _) (by omega) (by omega), i64n _ (by omega) (by omega)]; omega
  have eM1 : IntKind.i64.wrap (IntKind.i64.wrap (IntKind.i64.wrap (((nl a + 1 : Nat) : Int) - ((nl V : Nat) : Int)) - 1) + 1) = ((M + 1 : Nat) : Int) := by
    rw [eM, i64n _ (by omega) (by omega)]; omega
  have hVp : 0 < V := by omega
  have hAM : A / bw (M + 1) < V := by
    have h1 : A < bw (M + 1) * bw 2 := by rw [← bw_add]; rw [hM] at hAl; exact hAl
    refine Nat.lt_of_lt_of_le ((Nat.div_lt_iff_lt_mul (bw_pos _)).2 (?_ : A < 9223372036854775808 * bw (M + 1))) hVh
    have h3 := nl_self a
    rw [hM] at h3
    have h4 : bw (M + 2) = bw (M + 1) * 4294967296 := bw_succ _
    have h5 : 2 ^ s ≤ 2147483648 := Nat.pow_le_pow_right (n := 2) (by decide) hs1
    rw [hA]
    refine Nat.lt_of_lt_of_le (Nat.mul_lt_mul_of_pos_right h3 (Nat.pow_pos (by decide))) ?_
    rw [h4, Nat.mul_assoc, Nat.mul_comm 9223372036854775808]
    exact Nat.mul_le_mul_left _ (Nat.mul_le_mul_left 4294967296 h5)
  have hAq : A / V < bw (M + 1) := by
    refine (Nat.div_lt_iff_lt_mul hVp).2 ?_
    have := Nat.div_add_mod A (bw (M + 1))
    have h6 : A % bw (M + 1) < bw (M + 1) := Nat.mod_lt _ (bw_pos _)
    have h7 := Nat.mul_le_mul_left (bw (M + 1)) (show A / bw (M + 1) + 1 ≤ V from hAM)
    rw [Nat.mul_add, Nat.mul_one] at h7
    omega
  refine N.forkNo (by rw [decide_eq_false_iff_not]; omega) ?_
  repeat' (refine N.go ?_; first | with_reducible (first | refine N.obl (by decide) ?_ | refine N.obl (flat_wi _ _ _) ?_ | refine N.obl (flat_lim _ _) ?_ | refine N.eq ?_ | refine N.obl rfl ?_ | refine N.obl ⟨by kernel_rfl, by kernel_rfl⟩ ?_ | refine N.alt ?_ | refine N.forkT ?_ | refine N.forkF ?_) | refine MakeN.mk1 (M + 1) (M + 1) eM1 eM1 (by show 4 * (M + 1) ≤ _; omega) (by omega) (Nat.mul_one _).symm ?_ | refine N.forkNo (by decide) ?_ | refine N.forkYes (by decide) ?_ | refine N.forkYes (by rw [decide_eq_true_eq]; omega) ?_ | refine N.forkNo (by rw [decide_eq_false_iff_not]; omega) ?_ | refine N.obl trivial ?_ | exact N.true | fail)
  refine N.go ?_
  refine N.loopR (α := Nat) (fun k => k ≤ M + 1) (fun k => k) (fun k => [(16, .int .i64 ((k : Int) - 1))]) (fun k => [(7, numC true c (A / bw k % V * bw k + A % bw k)), (8, numC true (M + 1) (A / V / bw k * bw k))]) (M + 1) [(0, 0), (1, 1), (2, 2), (3, 3), (7, 7), (8, 8)] (Nat.le_refl _) ?_ ?_
  · repeat' (refine N.go ?_; first | with_reducible (first | refine N.obl (by decide) ?_ | refine N.obl (flat_wi _ _ _) ?_ | refine N.obl (flat_lim _ _) ?_ | refine N.eq ?_ | refine N.obl rfl ?_ | refine N.obl ⟨by kernel_rfl, by kernel_rfl⟩ ?_ | refine N.alt ?_ | refine N.forkT ?_ | refine N.forkF ?_) | exact N.true | refine N.obl (num_renE (by rw [Nat.mod_eq_of_lt hAM, Nat.mul_comm]; exact Nat.div_add_mod A _)) ?_ | refine N.obl (zeros_renE (by rw [Nat.div_eq_of_lt hAq, Nat.zero_mul])) ?_ | refine N.obl (num_ren (Nat.le_refl _)) ?_ | refine N.obl (re_eqn (inteq (by rw [eM]; omega)) rfl) ?_ | refine N.obl (.plain (by rfl)) ?_ | refine N.obl (.one (.slice (by rfl))) ?_ | refine N.obl (.one (.ptr (by rfl))) ?_ | refine N.obl (ChunkReLe.same (agg_plain (by rfl) (by rfl))) ?_ | fail)
  intro k hk
  have hk : k ≤ M + 1 := hk
  rcases Nat.eq_zero_or_pos k with rfl | hkp
  · have e7 : A / bw 0 % V * bw 0 + A % bw 0 = A % V := by rw [bw_zero, Nat.div_one, Nat.mul_one, Nat.mod_one, Nat.add_zero]
    have e8 : A / V / bw 0 * bw 0 = a / y := by rw [bw_zero, Nat.div_one, Nat.mul_one, hA, hV]; exact (Knuth.back a y s).1
    have hAV : A % V < bw (nl a + 1) := Nat.lt_of_le_of_lt (Nat.mod_le _ _) hAl
    have hqM : a / y < bw (M + 1) := by rw [← (Knuth.back a y s).1, ← hA, ← hV]; exact hAq
    have hAVl : nl (A % V) ≤ nl a + 1 := nl_le.2 hAV
    rw [e7, e8]
    by_cases hz : nl (A % V) = 0
    · repeat' (refine N.go ?_; first | with_reducible (first | refine N.obl (by decide) ?_ | refine N.obl (flat_wi _ _ _) ?_ | refine N.obl (flat_lim _ _) ?_ | refine N.eq ?_ | refine N.obl rfl ?_ | refine N.obl ⟨by kernel_rfl, by kernel_rfl⟩ ?_ | refine N.alt ?_ | refine N.forkT ?_ | refine N.forkF ?_) | refine N.forkNo (by decide) ?_ | refine N.call (cTrimC (A % V) c (nl a + 1) _ _ _ (by rfl) (isNum _ _ _) hl3 (by omega) hAV) ?_ | refine N.call (cTrimC (a / y) (M + 1) (M + 1) _ _ _ (by rfl) (isNum _ _ _) (Nat.le_refl _) (by omega) hqM) ?_ | refine N.call (cRight0 (A % V) s c _ _ _ (by rfl) (isNum _ _ _) hz (by omega)) ?_ | exact N.endQ0 8 (M + 1) (by rfl) (by rfl) ⟨by omega, by omega, nl_le.2 hqM⟩ | refine N.forkNo (by decide) ?_ | refine N.forkYes (by decide) ?_ | refine N.forkYes (by rw [decide_eq_true_eq]; omega) ?_ | refine N.forkNo (by rw [decide_eq_false_iff_not]; omega) ?_ | fail)
    · repeat' (refine N.go ?_; first | with_reducible (first | refine N.obl (by decide) ?_ | refine N.obl (flat_wi _ _ _) ?_ | refine N.obl (flat_lim _ _) ?_ | refine N.eq ?_ | refine N.obl rfl ?_ | refine N.obl ⟨by kernel_rfl, by kernel_rfl⟩ ?_ | refine N.alt ?_ | refine N.forkT ?_ | refine N.forkF ?_) | refine N.forkNo (by decide) ?_ | refine N.call (cTrimC (A % V) c (nl a + 1) _ _ _ (by rfl) (isNum _ _ _) hl3 (by omega) hAV) ?_ | refine N.call (cTrimC (a / y) (M + 1) (M + 1) _ _ _ (by rfl) (isNum _ _ _) (Nat.le_refl _) (by omega) hqM) ?_ | refine N.call (cRightS (A % V) s c _ 9 _ _ (by rfl) (isNum _ _ _) (by omega) (by omega) (by omega) (by omega) (by rfl)) ?_ | exact N.endQ1 8 (M + 1) _ _ _ (by rfl) (by rfl) ⟨by omega, by omega, nl_le.2 hqM⟩ | refine N.forkNo (by decide) ?_ | refine N.forkYes (by decide) ?_ | refine N.forkYes (by rw [decide_eq_true_eq]; omega) ?_ | refine N.forkNo (by rw [decide_eq_false_iff_not]; omega) ?_ | fail)
  obtain ⟨j', rfl⟩ : ∃ j', k = j' + 1 := ⟨k - 1, by omega⟩
  have hr := q_round A V j' hVp
  have e16 : (((j' + 1 : Nat) : Int) - 1) = (j' : Int) := by omega
  rw [hr.head]
  obtain ⟨R, hR⟩ : ∃ R, R = A / bw (j' + 1) % V := ⟨_, rfl⟩
  obtain ⟨d, hd⟩ : ∃ d, d = lm A j' := ⟨_, rfl⟩
  rw [← hR, ← hd] at hr ⊢
  have hy1b : 2147483648 ≤ lm V 1 ∧ lm V 1 < 4294967296 := ⟨by unfold lm; rw [bw_one]; omega, lm_lt V 1⟩
  have hy0b := lm_lt V 0
  have hVe : V = lm V 1 * 4294967296 + lm V 0 := by unfold lm; rw [bw_one, bw_zero, Nat.div_one]; omega
  have hRl := hr.lt
  have hdl := hr.dlt
  obtain ⟨u2, hu2⟩ : ∃ u2, u2 = R / 4294967296 := ⟨_, rfl⟩
  obtain ⟨u1, hu1⟩ : ∃ u1, u1 = R % 4294967296 := ⟨_, rfl⟩
  have hRe : R = u2 * 4294967296 + u1 := by omega
  have hu2b : u2 < 4294967296 := by omega
  have hu1b : u1 < 4294967296 := by omega
  have hTe : R * 4294967296 + d = (u2 * 4294967296 + u1) * 4294967296 + d := by rw [← hRe]
  obtain ⟨f0, f1, f2, f3⟩ := lm_three u2 u1 d hu2b hu1b hdl
  rw [← hTe] at f0 f1 f2 f3
  obtain ⟨T, hT⟩ : ∃ T, T = R * 4294967296 + d := ⟨_, rfl⟩
  rw [← hT] at f0 f1 f2 f3 hr ⊢
  have g0 : lm (T * bw j' + A % bw j') j' = d := by rw [lm_join, if_neg (by omega), Nat.sub_self, f0]
  have g1 : lm (T * bw j' + A % bw j') (j' + 1) = u1 := by rw [lm_join, if_neg (by omega), show j' + 1 - j' = 1 by omega, f1]
  have g2 : lm (T * bw j' + A % bw j') (j' + 2) = u2 := by rw [lm_join, if_neg (by omega), show j' + 2 - j' = 2 by omega, f2]
  obtain ⟨U, hU⟩ : ∃ U, U = T * bw j' + A % bw j' := ⟨_, rfl⟩
  rw [← hU] at g0 g1 g2 ⊢
  have ey1 : IntKind.u64.wrap ((lm V 1 : Nat) : Int) = ((lm V 1 : Nat) : Int) := w64 (by omega)
  have hyz : IntKind.u64.wrap ((lm V 1 : Nat) : Int) ≠ 0 := by rw [ey1]; omega
  have ev : IntKind.u64.wrap ((BitVec.ofInt IntKind.u64.bits (IntKind.u64.wrap (IntKind.u64.wrap ((lm U (j' + 2) : Nat) : Int) * 2 ^ sh 32 IntKind.u64)) ||| BitVec.ofInt IntKind.u64.bits (IntKind.u64.wrap ((lm U (j' + 1) : Nat) : Int))).toNat : Nat) = ((R : Nat) : Int) := by
    rw [g2, g1, w64 (n := u2) (by omega), w64 (n := u1) (by omega), show sh 32 IntKind.u64 = 32 from by decide, show ((u2 : Int) * 2 ^ 32) = ((u2 * 4294967296 : Nat) : Int) from by omega, w64 (n := u2 * 4294967296) (by omega), or_add u2 u1 hu2b hu1b, ← hRe]
  have gf := Knuth.first (y1 := lm V 1) (y0 := lm V 0) (u := R) (d := d) hy1b.1 hy1b.2 hy0b hdl (by show R < lm V 1 * 4294967296 + lm V 0; omega)
  repeat' (refine N.go ?_; first | with_reducible (first | refine N.obl (by decide) ?_ | refine N.obl (flat_wi _ _ _) ?_ | refine N.obl (flat_lim _ _) ?_ | refine N.eq ?_ | refine N.obl rfl ?_ | refine N.obl ⟨by kernel_rfl, by kernel_rfl⟩ ?_ | refine N.alt ?_ | refine N.forkT ?_ | refine N.forkF ?_) | refine N.idx (j' + 2) 1 (by rw [e16, hV2, i64n _ (by omega) (by omega)]; omega) (by omega) ?_ | refine N.idx (j' + 1) 1 (by rw [e16, hV2, i64n ((j' : Int) + _) (by omega) (by omega), i64n _ (by omega) (by omega)]; omega) (by omega) ?_ | refine N.load _ (reads_num (p := j' + 2) (by omega) (by omega)) ?_ | refine N.load _ (reads_num (p := j' + 1) (by omega) (by omega)) ?_ | refine N.forkYes (by rw [decide_eq_true_eq]; omega) ?_ | refine N.idx 1 1 (by rw [hV2]; decide) (by omega) ?_ | refine N.load _ (reads_num (p := 1) (by omega) (by omega)) ?_ | refine N.obl hyz ?_ | refine N.forkNo (by decide) ?_ | refine N.forkYes (by decide) ?_ | refine N.forkYes (by rw [decide_eq_true_eq]; omega) ?_ | refine N.forkNo (by rw [decide_eq_false_iff_not]; omega) ?_ | refine N.obl trivial ?_ | exact N.true | fail)
  refine N.go ?_
  refine N.loop (α := Nat × Nat) (fun x => Knuth.Guess (lm V 1) (lm V 0) R d x.1 x.2 ∧ x.2 < 4294967296) (fun x => x.1) (fun x => [(18, .int .u64 ((x.1 : Nat) : Int)), (19, .int .u64 ((x.2 : Nat) : Int))]) (fun x => []) (R / lm V 1, R % lm V 1) ⟨gf, by have := Nat.mod_lt R (show 0 < lm V 1 by omega); show R % lm V 1 < _; omega⟩ ?_ ?_
  · repeat (refine N.go ?_; first | exact N.true | with_reducible (first | refine N.obl rfl ?_ | refine N.obl (ChunkLe.refl _) ?_) | refine N.obl (int_i64 (by rw [IntWalk.i64_in _ (by omega)]; rfl)) ?_ | refine N.obl (inteq (by rw [ev, ey1, ← Int.ofNat_tdiv]; (try rw [w64 (by have := Nat.div_le_self R (lm V 1); omega)]))) ?_ | refine N.obl (inteq (by rw [ev, ey1, ← Int.ofNat_tmod]; (try rw [w64 (by have := Nat.mod_le R (lm V 1); omega)]))) ?_ |  fail_if_success skip)
  rintro x ⟨gg, hrr⟩
  refine N.go ?_
  generalize x.1 = qq at *
  generalize x.2 = rr at *
  have hUd : R < lm V 1 * 4294967296 + lm V 0 := by omega
  have eor : IntKind.u64.wrap ((BitVec.ofInt IntKind.u64.bits (IntKind.u64.wrap (((rr : Nat) : Int) * 2 ^ sh 32 IntKind.u64)) ||| BitVec.ofInt IntKind.u64.bits (IntKind.u64.wrap ((lm U j' : Nat) : Int))).toNat : Nat) = ((rr * 4294967296 + d : Nat) : Int) := by
    rw [g0, w64 (n := d) (by omega), show sh 32 IntKind.u64 = 32 from by decide, show ((rr : Int) * 2 ^ 32) = ((rr * 4294967296 : Nat) : Int) from by omega, w64 (n := rr * 4294967296) (by omega), or_add rr d hrr hdl]
  have hqle := gg.le
  have e19 : IntKind.u64.wrap (((rr : Nat) : Int) + IntKind.u64.wrap ((lm V 1 : Nat) : Int)) = ((rr + lm V 1 : Nat) : Int) := by
    rw [ey1, show ((rr : Nat) : Int) + ((lm V 1 : Nat) : Int) = ((rr + lm V 1 : Nat) : Int) from by omega, w64 (by omega)]
  by_cases hqh : 4294967296 ≤ qq
  · obtain ⟨hq0, gd⟩ := Knuth.down hdl hUd gg (.inl hqh)
    have e18 : IntKind.u64.wrap (((qq : Nat) : Int) - 1) = ((qq - 1 : Nat) : Int) := by rw [show ((qq : Nat) : Int) - 1 = ((qq - 1 : Nat) : Int) from by omega, w64 (by show qq - 1 < _; have : qq ≤ 4294967297 := hqle; omega)]
    refine N.forkYes (decide_eq_true (by show ((4294967296 : Int)) ≤ ((qq : Nat) : Int); omega)) ?_
    repeat' (refine N.go ?_; first | with_reducible (first | refine N.obl (by decide) ?_ | refine N.obl (flat_wi _ _ _) ?_ | refine N.obl (flat_lim _ _) ?_ | refine N.eq ?_ | refine N.obl rfl ?_ | refine N.obl ⟨by kernel_rfl, by kernel_rfl⟩ ?_ | refine N.alt ?_ | refine N.forkT ?_ | refine N.forkF ?_) | refine N.idx 1 1 (by rw [hV2]; decide) (by omega) ?_ | refine N.load _ (reads_num (p := 1) (by omega) (by omega)) ?_ | refine N.forkNo (by decide) ?_ | refine N.forkYes (by decide) ?_ | refine N.forkYes (by rw [decide_eq_true_eq]; omega) ?_ | refine N.forkNo (by rw [decide_eq_false_iff_not]; omega) ?_ | refine N.obl trivial ?_ | exact N.true | fail)
    refine N.go ?_
    rw [e18, e19]
    by_cases hbr : 4294967296 ≤ rr + lm V 1
    · refine N.forkYes (decide_eq_true (by show ((4294967296 : Int)) ≤ ((rr + lm V 1 : Nat) : Int); omega)) ?_
      have hqe : qq - 1 = T / V := by rw [hT, hVe]; exact Knuth.stop' hy0b hdl hUd gd (by have : qq ≤ 4294967297 := hqle; show qq - 1 ≤ 4294967296; omega) hbr
      rw [hqe]
      have hTe' : T = (u2 * 4294967296 + u1) * 4294967296 + d := by rw [hT, hTe]
      have hQlt : T / V < 4294967296 := by rw [hr.quo]; exact lm_lt _ _
      obtain ⟨Q, hQ⟩ : ∃ Q, Q = T / V := ⟨_, rfl⟩
      rw [← hQ] at hQlt ⊢
      obtain ⟨hm0, hm1, c1, ec1, hc1, b0, b1, hb0, hb1, w0, w1, hw0, hw1, s0, s1, s2, sR⟩ := q_sub u2 u1 d Q (lm V 1) (lm V 0) V T hu2b hu1b hdl hy1b.2 hy0b hQlt hVe hTe' hQ hVl hVp
      have hUq : U = qY u2 u1 d A j' := by rw [hU, hTe']; rfl
      have e20 : IntKind.u64.wrap (0 + IntKind.u64.wrap (((Q : Nat) : Int) * IntKind.u64.wrap ((lm V 0 : Nat) : Int))) = ((Q * lm V 0 : Nat) : Int) := by
        rw [w64 (n := lm V 0) (by omega), ← Int.natCast_mul, w64 (n := Q * lm V 0) (by omega), Int.zero_add, w64 (by omega)]
      obtain ⟨c0, hc0⟩ : ∃ c0, c0 = Q * lm V 0 := ⟨_, rfl⟩
      rw [← hc0] at e20 hm0 ec1 s0
      have e21 : IntKind.i64.wrap (0 + IntKind.i64.wrap (IntKind.i64.wrap ((lm U j' : Nat) : Int) - IntKind.i64.wrap (IntKind.u32.wrap ((c0 : Nat) : Int)))) = ((w0 : Nat) : Int) + b0 * 4294967296 := by
        rw [g0, w32 c0, i64n ((d : Nat) : Int) (by omega) (by omega), i64n ((c0 % 4294967296 : Nat) : Int) (by omega) (by omega), s0, i64n (((w0 : Nat) : Int) + _) (by omega) (by omega), Int.zero_add, i64n _ (by omega) (by omega)]
      refine N.go ?_
      refine N.roll 3 ?_
      repeat' (refine N.go ?_; first | with_reducible (first | refine N.obl (by decide) ?_ | refine N.obl (flat_wi _ _ _) ?_ | refine N.obl (flat_lim _ _) ?_ | refine N.eq ?_ | refine N.obl rfl ?_ | refine N.obl ⟨by kernel_rfl, by kernel_rfl⟩ ?_ | refine N.alt ?_ | refine N.forkT ?_ | refine N.forkF ?_) | refine N.idx 0 1 (by decide) (by omega) ?_ | refine N.load _ (reads_num (p := 0) (by omega) (by omega)) ?_ | refine N.forkYes (by rw [hV2]; decide) ?_ | refine N.idx j' 1 (by rw [e16, i64n _ (by omega) (by omega)]; omega) (by omega) ?_ | refine N.load _ (reads_num (p := j') (by omega) (by omega)) ?_ | refine N.forkNo (by decide) ?_ | refine N.forkYes (by decide) ?_ | refine N.forkYes (by rw [decide_eq_true_eq]; omega) ?_ | refine N.forkNo (by rw [decide_eq_false_iff_not]; omega) ?_ | refine N.obl trivial ?_ | exact N.true | fail)
      refine N.go ?_
      rw [e20, e21]
      refine N.store _ (writes_num (p := j') (v' := qY u2 u1 w0 A j') rfl (by omega) (by rw [qY_0 A j' hu2b hu1b hw0, IntKind.wrap_u32]; omega) (fun i _ hi => by rw [hUq]; exact qY_set0 A j' hu2b hu1b hdl hw0 i hi)) ?_
      have f20 : IntKind.u64.wrap ((((c0 : Nat) : Int)).fdiv (2 ^ sh 32 IntKind.u64) + IntKind.u64.wrap (((Q : Nat) : Int) * IntKind.u64.wrap ((lm V 1 : Nat) : Int))) = ((c1 : Nat) : Int) := by
        rw [shr32 c0, w64 (n := lm V 1) (by omega), ← Int.natCast_mul, w64 (n := Q * lm V 1) (by omega), ec1, ← Int.natCast_add, w64 (by rw [← ec1]; exact hc1)]
      have f21 : IntKind.i64.wrap ((((w0 : Nat) : Int) + b0 * 4294967296).fdiv (2 ^ sh 32 IntKind.i64) + IntKind.i64.wrap (IntKind.i64.wrap ((lm (qY u2 u1 w0 A j') (j' + 1) : Nat) : Int) - IntKind.i64.wrap (IntKind.u32.wrap ((c1 : Nat) : Int)))) = ((w1 : Nat) : Int) + b1 * 4294967296 := by
        rw [shr32i w0 b0 hw0, qY_1 A j' hu2b hu1b hw0, w32 c1, i64n ((u1 : Nat) : Int) (by omega) (by omega), i64n ((c1 % 4294967296 : Nat) : Int) (by omega) (by omega), i64n (((u1 : Nat) : Int) - _) (by omega) (by omega), s1, i64n _ (by omega) (by omega)]
      have h20 : IntKind.u32.wrap ((((c1 : Nat) : Int)).fdiv (2 ^ sh 32 IntKind.u64)) = ((c1 / 4294967296 % 4294967296 : Nat) : Int) := by
        rw [shr32 c1, w32]
      have h21 : IntKind.i64.wrap ((((w1 : Nat) : Int) + b1 * 4294967296).fdiv (2 ^ sh 32 IntKind.i64) + IntKind.i64.wrap (IntKind.i64.wrap ((lm (qY u2 w1 w0 A j') (j' + 2) : Nat) : Int) - IntKind.i64.wrap (IntKind.u32.wrap ((((c1 : Nat) : Int)).fdiv (2 ^ sh 32 IntKind.u64))))) = 0 := by
        rw [shr32i w1 b1 hw1, qY_2 A j' hu2b hw1 hw0, h20, i64n ((u2 : Nat) : Int) (by omega) (by omega), i64n ((c1 / 4294967296 % 4294967296 : Nat) : Int) (by omega) (by omega), i64n (((u2 : Nat) : Int) - _) (by omega) (by omega), s2]
        decide
      repeat' (refine N.go ?_; first | with_reducible (first | refine N.obl (by decide) ?_ | refine N.obl (flat_wi _ _ _) ?_ | refine N.obl (flat_lim _ _) ?_ | refine N.eq ?_ | refine N.obl rfl ?_ | refine N.obl ⟨by kernel_rfl, by kernel_rfl⟩ ?_ | refine N.alt ?_ | refine N.forkT ?_ | refine N.forkF ?_) | refine N.idx 1 1 (by decide) (by omega) ?_ | refine N.load _ (reads_num (p := 1) (by omega) (by omega)) ?_ | refine N.forkYes (by rw [hV2]; decide) ?_ | refine N.idx (j' + 1) 1 (by rw [e16, show IntKind.i64.wrap (0 + 1) = 1 from by decide, i64n _ (by omega) (by omega)]; omega) (by omega) ?_ | refine N.load _ (reads_num (p := j' + 1) (by omega) (by omega)) ?_ | refine N.forkNo (by decide) ?_ | refine N.forkYes (by decide) ?_ | refine N.forkYes (by rw [decide_eq_true_eq]; omega) ?_ | refine N.forkNo (by rw [decide_eq_false_iff_not]; omega) ?_ | refine N.obl trivial ?_ | exact N.true | fail)
      refine N.go ?_
      rw [f20, f21]
      refine N.store _ (writes_num (p := j' + 1) (v' := qY u2 w1 w0 A j') rfl (by omega) (by rw [qY_1 A j' hu2b hw1 hw0, IntKind.wrap_u32]; omega) (fun i _ hi => qY_set1 A j' hu2b hu1b hw0 hw1 i hi)) ?_
      repeat' (refine N.go ?_; first | with_reducible (first | refine N.obl (by decide) ?_ | refine N.obl (flat_wi _ _ _) ?_ | refine N.obl (flat_lim _ _) ?_ | refine N.eq ?_ | refine N.obl rfl ?_ | refine N.obl ⟨by kernel_rfl, by kernel_rfl⟩ ?_ | refine N.alt ?_ | refine N.forkT ?_ | refine N.forkF ?_) | refine N.forkNo (by rw [hV2]; decide) ?_ | refine N.idx (j' + 2) 1 (by rw [e16, hV2, i64n _ (by omega) (by omega)]; omega) (by omega) ?_ | refine N.load _ (reads_num (p := j' + 2) (by omega) (by omega)) ?_ | refine N.forkNo (by decide) ?_ | refine N.forkYes (by decide) ?_ | refine N.forkYes (by rw [decide_eq_true_eq]; omega) ?_ | refine N.forkNo (by rw [decide_eq_false_iff_not]; omega) ?_ | refine N.obl trivial ?_ | exact N.true | fail)
      refine N.go ?_
      rw [h21]
      refine N.store _ (writes_num (p := j' + 2) (v' := qY 0 w1 w0 A j') rfl (by omega) (by rw [qY_2 A j' (by decide) hw1 hw0]; rfl) (fun i _ hi => qY_set2 A j' hu2b hw1 hw0 (by decide) i hi)) ?_
      repeat' (refine N.go ?_; first | with_reducible (first | refine N.obl (by decide) ?_ | refine N.obl (flat_wi _ _ _) ?_ | refine N.obl (flat_lim _ _) ?_ | refine N.eq ?_ | refine N.obl rfl ?_ | refine N.obl ⟨by kernel_rfl, by kernel_rfl⟩ ?_ | refine N.alt ?_ | refine N.forkT ?_ | refine N.forkF ?_) | refine N.idx j' 1 (by rw [e16]) (by omega) ?_ | refine N.forkNo (by decide) ?_ | refine N.forkYes (by decide) ?_ | refine N.forkYes (by rw [decide_eq_true_eq]; omega) ?_ | refine N.forkNo (by rw [decide_eq_false_iff_not]; omega) ?_ | refine N.obl trivial ?_ | exact N.true | fail)
      refine N.go ?_
      refine N.store _ (writes_down (v := A / V) (i := j') rfl (by omega) (by rw [w32 Q, hQ, hr.quo, Nat.mod_eq_of_lt (lm_lt _ _)])) ?_
      have hUn : qY 0 w1 w0 A j' = A / bw j' % V * bw j' + A % bw j' := by unfold qY; rw [Nat.zero_mul, Nat.zero_add, sR, hr.rest]
      rw [hUn]
      repeat' (refine N.go ?_; first | with_reducible (first | refine N.obl (by decide) ?_ | refine N.obl (flat_wi _ _ _) ?_ | refine N.obl (flat_lim _ _) ?_ | refine N.eq ?_ | refine N.obl rfl ?_ | refine N.obl ⟨by kernel_rfl, by kernel_rfl⟩ ?_ | refine N.alt ?_ | refine N.forkT ?_ | refine N.forkF ?_) | refine N.forkNo (by decide) ?_ | refine N.forkYes (by decide) ?_ | refine N.forkYes (by rw [decide_eq_true_eq]; omega) ?_ | refine N.forkNo (by rw [decide_eq_false_iff_not]; omega) ?_ | refine N.obl trivial ?_ | exact N.true | fail)
      refine N.go ?_
      refine N.nextR (α := Nat) j' [(0, 0), (1, 1), (2, 2), (3, 3), (7, 7), (8, 8)] ⟨by show j' ≤ M + 1; omega, by show j' < j' + 1; omega⟩ ?_
      repeat' (refine N.go ?_; first | with_reducible (first | refine N.obl (by decide) ?_ | refine N.obl (flat_wi _ _ _) ?_ | refine N.obl (flat_lim _ _) ?_ | refine N.eq ?_ | refine N.obl rfl ?_ | refine N.obl ⟨by kernel_rfl, by kernel_rfl⟩ ?_ | refine N.alt ?_ | refine N.forkT ?_ | refine N.forkF ?_) | exact N.true | refine N.obl (num_ren (Nat.le_refl _)) ?_ | refine N.obl (re_eqn (inteq (by rw [i64n _ (by omega) (by omega)]; omega)) rfl) ?_ | refine N.obl (.plain (by rfl)) ?_ | refine N.obl (.one (.slice (by rfl))) ?_ | refine N.obl (.one (.ptr (by rfl))) ?_ | refine N.obl (ChunkReLe.same (agg_plain (by rfl) (by rfl))) ?_ | fail)
    · refine N.forkNo (decide_eq_false (by show ¬ ((4294967296 : Int)) ≤ ((rr + lm V 1 : Nat) : Int); omega)) ?_
      repeat' (refine N.go ?_; first | with_reducible (first | refine N.obl (by decide) ?_ | refine N.obl (flat_wi _ _ _) ?_ | refine N.obl (flat_lim _ _) ?_ | refine N.eq ?_ | refine N.obl rfl ?_ | refine N.obl ⟨by kernel_rfl, by kernel_rfl⟩ ?_ | refine N.alt ?_ | refine N.forkT ?_ | refine N.forkF ?_) | refine N.forkNo (by decide) ?_ | refine N.forkYes (by decide) ?_ | refine N.forkYes (by rw [decide_eq_true_eq]; omega) ?_ | refine N.forkNo (by rw [decide_eq_false_iff_not]; omega) ?_ | refine N.obl trivial ?_ | exact N.true | fail)
      refine N.go ?_
      refine N.next (qq - 1, rr + lm V 1) ⟨⟨gd, by show rr + lm V 1 < _; omega⟩, by show qq - 1 < qq; omega⟩ ?_
      repeat (refine N.go ?_; first | exact N.true | with_reducible (first | refine N.obl rfl ?_ | refine N.obl (ChunkLe.refl _) ?_) | refine N.obl (int_i64 (by rw [IntWalk.i64_in _ (by omega)]; rfl)) ?_ |  fail_if_success skip)
  · refine N.forkNo (decide_eq_false (by show ¬ ((4294967296 : Int)) ≤ ((qq : Nat) : Int); omega)) ?_
    have hm0 : qq * lm V 0 < 18446744073709551616 := by
      have := Nat.mul_le_mul (show qq ≤ 4294967295 by omega) (show lm V 0 ≤ 4294967295 by omega)
      omega
    have emul : IntKind.u64.wrap (((qq : Nat) : Int) * IntKind.u64.wrap ((lm V 0 : Nat) : Int)) = ((qq * lm V 0 : Nat) : Int) := by
      rw [w64 (n := lm V 0) (by omega), ← Int.natCast_mul, w64 hm0]
    repeat' (refine N.go ?_; first | with_reducible (first | refine N.obl (by decide) ?_ | refine N.obl (flat_wi _ _ _) ?_ | refine N.obl (flat_lim _ _) ?_ | refine N.eq ?_ | refine N.obl rfl ?_ | refine N.obl ⟨by kernel_rfl, by kernel_rfl⟩ ?_ | refine N.alt ?_ | refine N.forkT ?_ | refine N.forkF ?_) | refine N.forkYes (by rw [decide_eq_true_eq]; omega) ?_ | refine N.idx 0 1 (by rw [hV2]; decide) (by omega) ?_ | refine N.load _ (reads_num (p := 0) (by omega) (by omega)) ?_ | refine N.idx j' 1 (by rw [e16, hV2, i64n ((j' : Int) + _) (by omega) (by omega), i64n _ (by omega) (by omega)]; omega) (by omega) ?_ | refine N.load _ (reads_num (p := j') (by omega) (by omega)) ?_ | refine N.forkNo (by decide) ?_ | refine N.forkYes (by decide) ?_ | refine N.forkYes (by rw [decide_eq_true_eq]; omega) ?_ | refine N.forkNo (by rw [decide_eq_false_iff_not]; omega) ?_ | refine N.obl trivial ?_ | exact N.true | fail)
    refine N.go ?_
    rw [emul, eor]
    by_cases hgt : rr * 4294967296 + d < qq * lm V 0
    · obtain ⟨hq0, gd⟩ := Knuth.down hdl hUd gg (.inr (by show 4294967296 * rr + d < _; omega))
      have e18 : IntKind.u64.wrap (((qq : Nat) : Int) - 1) = ((qq - 1 : Nat) : Int) := by rw [show ((qq : Nat) : Int) - 1 = ((qq - 1 : Nat) : Int) from by omega, w64 (by show qq - 1 < _; have : qq ≤ 4294967297 := hqle; omega)]
      refine N.forkYes (decide_eq_true (by show ((rr * 4294967296 + d : Nat) : Int) < ((qq * lm V 0 : Nat) : Int); exact Int.ofNat_lt.2 hgt)) ?_
      repeat' (refine N.go ?_; first | with_reducible (first | refine N.obl (by decide) ?_ | refine N.obl (flat_wi _ _ _) ?_ | refine N.obl (flat_lim _ _) ?_ | refine N.eq ?_ | refine N.obl rfl ?_ | refine N.obl ⟨by kernel_rfl, by kernel_rfl⟩ ?_ | refine N.alt ?_ | refine N.forkT ?_ | refine N.forkF ?_) | refine N.idx 1 1 (by rw [hV2]; decide) (by omega) ?_ | refine N.load _ (reads_num (p := 1) (by omega) (by omega)) ?_ | refine N.forkNo (by decide) ?_ | refine N.forkYes (by decide) ?_ | refine N.forkYes (by rw [decide_eq_true_eq]; omega) ?_ | refine N.forkNo (by rw [decide_eq_false_iff_not]; omega) ?_ | refine N.obl trivial ?_ | exact N.true | fail)
      refine N.go ?_
      rw [e18, e19]
      by_cases hbr : 4294967296 ≤ rr + lm V 1
      · refine N.forkYes (decide_eq_true (by show ((4294967296 : Int)) ≤ ((rr + lm V 1 : Nat) : Int); omega)) ?_
        have hqe : qq - 1 = T / V := by rw [hT, hVe]; exact Knuth.stop' hy0b hdl hUd gd (by have : qq ≤ 4294967297 := hqle; show qq - 1 ≤ 4294967296; omega) hbr
        rw [hqe]
        have hTe' : T = (u2 * 4294967296 + u1) * 4294967296 + d := by rw [hT, hTe]
        have hQlt : T / V < 4294967296 := by rw [hr.quo]; exact lm_lt _ _
        obtain ⟨Q, hQ⟩ : ∃ Q, Q = T / V := ⟨_, rfl⟩
        rw [← hQ] at hQlt ⊢
        obtain ⟨hm0, hm1, c1, ec1, hc1, b0, b1, hb0, hb1, w0, w1, hw0, hw1, s0, s1, s2, sR⟩ := q_sub u2 u1 d Q (lm V 1) (lm V 0) V T hu2b hu1b hdl hy1b.2 hy0b hQlt hVe hTe' hQ hVl hVp
        have hUq : U = qY u2 u1 d A j' := by rw [hU, hTe']; rfl
        have e20 : IntKind.u64.wrap (0 + IntKind.u64.wrap (((Q : Nat) : Int) * IntKind.u64.wrap ((lm V 0 : Nat) : Int))) = ((Q * lm V 0 : Nat) : Int) := by
          rw [w64 (n := lm V 0) (by omega), ← Int.natCast_mul, w64 (n := Q * lm V 0) (by omega), Int.zero_add, w64 (by omega)]
        obtain ⟨c0, hc0⟩ : ∃ c0, c0 = Q * lm V 0 := ⟨_, rfl⟩
        rw [← hc0] at e20 hm0 ec1 s0
        have e21 : IntKind.i64.wrap (0 + IntKind.i64.wrap (IntKind.i64.wrap ((lm U j' : Nat) : Int) - IntKind.i64.wrap (IntKind.u32.wrap ((c0 : Nat) : Int)))) = ((w0 : Nat) : Int) + b0 * 4294967296 := by
          rw [g0, w32 c0, i64n ((d : Nat) : Int) (by omega) (by omega), i64n ((c0 % 4294967296 : Nat) : Int) (by omega) (by omega), s0, i64n (((w0 : Nat) : Int) + _) (by omega) (by omega), Int.zero_add, i64n _ (by omega) (by omega)]
        refine N.go ?_
        refine N.roll 3 ?_
        repeat' (refine N.go ?_; first | with_reducible (first | refine N.obl (by decide) ?_ | refine N.obl (flat_wi _ _ _) ?_ | refine N.obl (flat_lim _ _) ?_ | refine N.eq ?_ | refine N.obl rfl ?_ | refine N.obl ⟨by kernel_rfl, by kernel_rfl⟩ ?_ | refine N.alt ?_ | refine N.forkT ?_ | refine N.forkF ?_) | refine N.idx 0 1 (by decide) (by omega) ?_ | refine N.load _ (reads_num (p := 0) (by omega) (by omega)) ?_ | refine N.forkYes (by rw [hV2]; decide) ?_ | refine N.idx j' 1 (by rw [e16, i64n _ (by omega) (by omega)]; omega) (by omega) ?_ | refine N.load _ (reads_num (p := j') (by omega) (by omega)) ?_ | refine N.forkNo (by decide) ?_ | refine N.forkYes (by decide) ?_ | refine N.forkYes (by rw [decide_eq_true_eq]; omega) ?_ | refine N.forkNo (by rw [decide_eq_false_iff_not]; omega) ?_ | refine N.obl trivial ?_ | exact N.true | fail)
        refine N.go ?_
        rw [e20, e21]
        refine N.store _ (writes_num (p := j') (v' := qY u2 u1 w0 A j') rfl (by omega) (by rw [qY_0 A j' hu2b hu1b hw0, IntKind.wrap_u32]; omega) (fun i _ hi => by rw [hUq]; exact qY_set0 A j' hu2b hu1b hdl hw0 i hi)) ?_
        have f20 : IntKind.u64.wrap ((((c0 : Nat) : Int)).fdiv (2 ^ sh 32 IntKind.u64) + IntKind.u64.wrap (((Q : Nat) : Int) * IntKind.u64.wrap ((lm V 1 : Nat) : Int))) = ((c1 : Nat) : Int) := by
          rw [shr32 c0, w64 (n := lm V 1) (by omega), ← Int.natCast_mul, w64 (n := Q * lm V 1) (by omega), ec1, ← Int.natCast_add, w64 (by rw [← ec1]; exact hc1)]
        have f21 : IntKind.i64.wrap ((((w0 : Nat) : Int) + b0 * 4294967296).fdiv (2 ^ sh 32 IntKind.i64) + IntKind.i64.wrap (IntKind.i64.wrap ((lm (qY u2 u1 w0 A j') (j' + 1) : Nat) : Int) - IntKind.i64.wrap (IntKind.u32.wrap ((c1 : Nat) : Int)))) = ((w1 : Nat) : Int) + b1 * 4294967296 := by
          rw [shr32i w0 b0 hw0, qY_1 A j' hu2b hu1b hw0, w32 c1, i64n ((u1 : Nat) : Int) (by omega) (by omega), i64n ((c1 % 4294967296 : Nat) : Int) (by omega) (by omega), i64n (((u1 : Nat) : Int) - _) (by omega) (by omega), s1, i64n _ (by omega) (by omega)]
        have h20 : IntKind.u32.wrap ((((c1 : Nat) : Int)).fdiv (2 ^ sh 32 IntKind.u64)) = ((c1 / 4294967296 % 4294967296 : Nat) : Int) := by
          rw [shr32 c1, w32]
        have h21 : IntKind.i64.wrap ((((w1 : Nat) : Int) + b1 * 4294967296).fdiv (2 ^ sh 32 IntKind.i64) + IntKind.i64.wrap (IntKind.i64.wrap ((lm (qY u2 w1 w0 A j') (j' + 2) : Nat) : Int) - IntKind.i64.wrap (IntKind.u32.wrap ((((c1 : Nat) : Int)).fdiv (2 ^ sh 32 IntKind.u64))))) = 0 := by
          rw [shr32i w1 b1 hw1, qY_2 A j' hu2b hw1 hw0, h20, i64n ((u2 : Nat) : Int) (by omega) (by omega), i64n ((c1 / 4294967296 % 4294967296 : Nat) : Int) (by omega) (by omega), i64n (((u2 : Nat) : Int) - _) (by omega) (by omega), s2]
          decide
        repeat' (refine N.go ?_; first | with_reducible (first | refine N.obl (by decide) ?_ | refine N.obl (flat_wi _ _ _) ?_ | refine N.obl (flat_lim _ _) ?_ | refine N.eq ?_ | refine N.obl rfl ?_ | refine N.obl ⟨by kernel_rfl, by kernel_rfl⟩ ?_ | refine N.alt ?_ | refine N.forkT ?_ | refine N.forkF ?_) | refine N.idx 1 1 (by decide) (by omega) ?_ | refine N.load _ (reads_num (p := 1) (by omega) (by omega)) ?_ | refine N.forkYes (by rw [hV2]; decide) ?_ | refine N.idx (j' + 1) 1 (by rw [e16, show IntKind.i64.wrap (0 + 1) = 1 from by decide, i64n _ (by omega) (by omega)]; omega) (by omega) ?_ | refine N.load _ (reads_num (p := j' + 1) (by omega) (by omega)) ?_ | refine N.forkNo (by decide) ?_ | refine N.forkYes (by decide) ?_ | refine N.forkYes (by rw [decide_eq_true_eq]; omega) ?_ | refine N.forkNo (by rw [decide_eq_false_iff_not]; omega) ?_ | refine N.obl trivial ?_ | exact N.true | fail)
        refine N.go ?_
        rw [f20, f21]
        refine N.store _ (writes_num (p := j' + 1) (v' := qY u2 w1 w0 A j') rfl (by omega) (by rw [qY_1 A j' hu2b hw1 hw0, IntKind.wrap_u32]; omega) (fun i _ hi => qY_set1 A j' hu2b hu1b hw0 hw1 i hi)) ?_
        repeat' (refine N.go ?_; first | with_reducible (first | refine N.obl (by decide) ?_ | refine N.obl (flat_wi _ _ _) ?_ | refine N.obl (flat_lim _ _) ?_ | refine N.eq ?_ | refine N.obl rfl ?_ | refine N.obl ⟨by kernel_rfl, by kernel_rfl⟩ ?_ | refine N.alt ?_ | refine N.forkT ?_ | refine N.forkF ?_) | refine N.forkNo (by rw [hV2]; decide) ?_ | refine N.idx (j' + 2) 1 (by rw [e16, hV2, i64n _ (by omega) (by omega)]; omega) (by omega) ?_ | refine N.load _ (reads_num (p := j' + 2) (by omega) (by omega)) ?_ | refine N.forkNo (by decide) ?_ | refine N.forkYes (by decide) ?_ | refine N.forkYes (by rw [decide_eq_true_eq]; omega) ?_ | refine N.forkNo (by rw [decide_eq_false_iff_not]; omega) ?_ | refine N.obl trivial ?_ | exact N.true | fail)
        refine N.go ?_
        rw [h21]
        refine N.store _ (writes_num (p := j' + 2) (v' := qY 0 w1 w0 A j') rfl (by omega) (by rw [qY_2 A j' (by decide) hw1 hw0]; rfl) (fun i _ hi => qY_set2 A j' hu2b hw1 hw0 (by decide) i hi)) ?_
        repeat' (refine N.go ?_; first | with_reducible (first | refine N.obl (by decide) ?_ | refine N.obl (flat_wi _ _ _) ?_ | refine N.obl (flat_lim _ _) ?_ | refine N.eq ?_ | refine N.obl rfl ?_ | refine N.obl ⟨by kernel_rfl, by kernel_rfl⟩ ?_ | refine N.alt ?_ | refine N.forkT ?_ | refine N.forkF ?_) | refine N.idx j' 1 (by rw [e16]) (by omega) ?_ | refine N.forkNo (by decide) ?_ | refine N.forkYes (by decide) ?_ | refine N.forkYes (by rw [decide_eq_true_eq]; omega) ?_ | refine N.forkNo (by rw [decide_eq_false_iff_not]; omega) ?_ | refine N.obl trivial ?_ | exact N.true | fail)
        refine N.go ?_
        refine N.store _ (writes_down (v := A / V) (i := j') rfl (by omega) (by rw [w32 Q, hQ, hr.quo, Nat.mod_eq_of_lt (lm_lt _ _)])) ?_
        have hUn : qY 0 w1 w0 A j' = A / bw j' % V * bw j' + A % bw j' := by unfold qY; rw [Nat.zero_mul, Nat.zero_add, sR, hr.rest]
        rw [hUn]
        repeat' (refine N.go ?_; first | with_reducible (first | refine N.obl (by decide) ?_ | refine N.obl (flat_wi _ _ _) ?_ | refine N.obl (flat_lim _ _) ?_ | refine N.eq ?_ | refine N.obl rfl ?_ | refine N.obl ⟨by kernel_rfl, by kernel_rfl⟩ ?_ | refine N.alt ?_ | refine N.forkT ?_ | refine N.forkF ?_) | refine N.forkNo (by decide) ?_ | refine N.forkYes (by decide) ?_ | refine N.forkYes (by rw [decide_eq_true_eq]; omega) ?_ | refine N.forkNo (by rw [decide_eq_false_iff_not]; omega) ?_ | refine N.obl trivial ?_ | exact N.true | fail)
        refine N.go ?_
        refine N.nextR (α := Nat) j' [(0, 0), (1, 1), (2, 2), (3, 3), (7, 7), (8, 8)] ⟨by show j' ≤ M + 1; omega, by show j' < j' + 1; omega⟩ ?_
        repeat' (refine N.go ?_; first | with_reducible (first | refine N.obl (by decide) ?_ | refine N.obl (flat_wi _ _ _) ?_ | refine N.obl (flat_lim _ _) ?_ | refine N.eq ?_ | refine N.obl rfl ?_ | refine N.obl ⟨by kernel_rfl, by kernel_rfl⟩ ?_ | refine N.alt ?_ | refine N.forkT ?_ | refine N.forkF ?_) | exact N.true | refine N.obl (num_ren (Nat.le_refl _)) ?_ | refine N.obl (re_eqn (inteq (by rw [i64n _ (by omega) (by omega)]; omega)) rfl) ?_ | refine N.obl (.plain (by rfl)) ?_ | refine N.obl (.one (.slice (by rfl))) ?_ | refine N.obl (.one (.ptr (by rfl))) ?_ | refine N.obl (ChunkReLe.same (agg_plain (by rfl) (by rfl))) ?_ | fail)
      · refine N.forkNo (decide_eq_false (by show ¬ ((4294967296 : Int)) ≤ ((rr + lm V 1 : Nat) : Int); omega)) ?_
        repeat' (refine N.go ?_; first | with_reducible (first | refine N.obl (by decide) ?_ | refine N.obl (flat_wi _ _ _) ?_ | refine N.obl (flat_lim _ _) ?_ | refine N.eq ?_ | refine N.obl rfl ?_ | refine N.obl ⟨by kernel_rfl, by kernel_rfl⟩ ?_ | refine N.alt ?_ | refine N.forkT ?_ | refine N.forkF ?_) | refine N.forkNo (by decide) ?_ | refine N.forkYes (by decide) ?_ | refine N.forkYes (by rw [decide_eq_true_eq]; omega) ?_ | refine N.forkNo (by rw [decide_eq_false_iff_not]; omega) ?_ | refine N.obl trivial ?_ | exact N.true | fail)
        refine N.go ?_
        refine N.next (qq - 1, rr + lm V 1) ⟨⟨gd, by show rr + lm V 1 < _; omega⟩, by show qq - 1 < qq; omega⟩ ?_
        repeat (refine N.go ?_; first | exact N.true | with_reducible (first | refine N.obl rfl ?_ | refine N.obl (ChunkLe.refl _) ?_) | refine N.obl (int_i64 (by rw [IntWalk.i64_in _ (by omega)]; rfl)) ?_ |  fail_if_success skip)
    · refine N.forkNo (decide_eq_false (by show ¬ ((rr * 4294967296 + d : Nat) : Int) < ((qq * lm V 0 : Nat) : Int); exact fun h => hgt (Int.ofNat_lt.1 h))) ?_
      have hqe : qq = T / V := by rw [hT, hVe]; exact Knuth.stop hdl hUd gg (by show qq < 4294967296; omega) (by show _ ≤ 4294967296 * rr + d; omega)
      rw [hqe]
      have hTe' : T = (u2 * 4294967296 + u1) * 4294967296 + d := by rw [hT, hTe]
      have hQlt : T / V < 4294967296 := by rw [hr.quo]; exact lm_lt _ _
      obtain ⟨Q, hQ⟩ : ∃ Q, Q = T / V := ⟨_, rfl⟩
      rw [← hQ] at hQlt ⊢
      obtain ⟨hm0, hm1, c1, ec1, hc1, b0, b1, hb0, hb1, w0, w1, hw0, hw1, s0, s1, s2, sR⟩ := q_sub u2 u1 d Q (lm V 1) (lm V 0) V T hu2b hu1b hdl hy1b.2 hy0b hQlt hVe hTe' hQ hVl hVp
      have hUq : U = qY u2 u1 d A j' := by rw [hU, hTe']; rfl
      have e20 : IntKind.u64.wrap (0 + IntKind.u64.wrap (((Q : Nat) : Int) * IntKind.u64.wrap ((lm V 0 : Nat) : Int))) = ((Q * lm V 0 : Nat) : Int) := by
        rw [w64 (n := lm V 0) (by omega), ← Int.natCast_mul, w64 (n := Q * lm V 0) (by omega), Int.zero_add, w64 (by omega)]
      obtain ⟨c0, hc0⟩ : ∃ c0, c0 = Q * lm V 0 := ⟨_, rfl⟩
      rw [← hc0] at e20 hm0 ec1 s0
      have e21 : IntKind.i64.wrap (0 + IntKind.i64.wrap (IntKind.i64.wrap ((lm U j' : Nat) : Int) - IntKind.i64.wrap (IntKind.u32.wrap ((c0 : Nat) : Int)))) = ((w0 : Nat) : Int) + b0 * 4294967296 := by
        rw [g0, w32 c0, i64n ((d : Nat) : Int) (by omega) (by omega), i64n ((c0 % 4294967296 : Nat) : Int) (by omega) (by omega), s0, i64n (((w0 : Nat) : Int) + _) (by omega) (by omega), Int.zero_add, i64n _ (by omega) (by omega)]
      refine N.go ?_
      refine N.roll 3 ?_
      repeat' (refine N.go ?_; first | with_reducible (first | refine N.obl (by decide) ?_ | refine N.obl (flat_wi _ _ _) ?_ | refine N.obl (flat_lim _ _) ?_ | refine N.eq ?_ | refine N.obl rfl ?_ | refine N.obl ⟨by kernel_rfl, by kernel_rfl⟩ ?_ | refine N.alt ?_ | refine N.forkT ?_ | refine N.forkF ?_) | refine N.idx 0 1 (by decide) (by omega) ?_ | refine N.load _ (reads_num (p := 0) (by omega) (by omega)) ?_ | refine N.forkYes (by rw [hV2]; decide) ?_ | refine N.idx j' 1 (by rw [e16, i64n _ (by omega) (by omega)]; omega) (by omega) ?_ | refine N.load _ (reads_num (p := j') (by omega) (by omega)) ?_ | refine N.forkNo (by decide) ?_ | refine N.forkYes (by decide) ?_ | refine N.forkYes (by rw [decide_eq_true_eq]; omega) ?_ | refine N.forkNo (by rw [decide_eq_false_iff_not]; omega) ?_ | refine N.obl trivial ?_ | exact N.true | fail)
      refine N.go ?_
      rw [e20, e21]
      refine N.store _ (writes_num (p := j') (v' := qY u2 u1 w0 A j') rfl (by omega) (by rw [qY_0 A j' hu2b hu1b hw0, IntKind.wrap_u32]; omega) (fun i _ hi => by rw [hUq]; exact qY_set0 A j' hu2b hu1b hdl hw0 i hi)) ?_
      have f20 : IntKind.u64.wrap ((((c0 : Nat) : Int)).fdiv (2 ^ sh 32 IntKind.u64) + IntKind.u64.wrap (((Q : Nat) : Int) * IntKind.u64.wrap ((lm V 1 : Nat) : Int))) = ((c1 : Nat) : Int) := by
        rw [shr32 c0, w64 (n := lm V 1) (by omega), ← Int.natCast_mul, w64 (n := Q * lm V 1) (by omega), ec1, ← Int.natCast_add, w64 (by rw [← ec1]; exact hc1)]
      have f21 : IntKind.i64.wrap ((((w0 : Nat) : Int) + b0 * 4294967296).fdiv (2 ^ sh 32 IntKind.i64) + IntKind.i64.wrap (IntKind.i64.wrap ((lm (qY u2 u1 w0 A j') (j' + 1) : Nat) : Int) - IntKind.i64.wrap (IntKind.u32.wrap ((c1 : Nat) : Int)))) = ((w1 : Nat) : Int) + b1 * 4294967296 := by
        rw [shr32i w0 b0 hw0, qY_1 A j' hu2b hu1b hw0, w32 c1, i64n ((u1 : Nat) : Int) (by omega) (by omega), i64n ((c1 % 4294967296 : Nat) : Int) (by omega) (by omega), i64n (((u1 : Nat) : Int) - _) (by omega) (by omega), s1, i64n _ (by omega) (by omega)]
      have h20 : IntKind.u32.wrap ((((c1 : Nat) : Int)).fdiv (2 ^ sh 32 IntKind.u64)) = ((c1 / 4294967296 % 4294967296 : Nat) : Int) := by
        rw [shr32 c1, w32]
      have h21 : IntKind.i64.wrap ((((w1 : Nat) : Int) + b1 * 4294967296).fdiv (2 ^ sh 32 IntKind.i64) + IntKind.i64.wrap (IntKind.i64.wrap ((lm (qY u2 w1 w0 A j') (j' + 2) : Nat) : Int) - IntKind.i64.wrap (IntKind.u32.wrap ((((c1 : Nat) : Int)).fdiv (2 ^ sh 32 IntKind.u64))))) = 0 := by
        rw [shr32i w1 b1 hw1, qY_2 A j' hu2b hw1 hw0, h20, i64n ((u2 : Nat) : Int) (by omega) (by omega), i64n ((c1 / 4294967296 % 4294967296 : Nat) : Int) (by omega) (by omega), i64n (((u2 : Nat) : Int) - _) (by omega) (by omega), s2]
        decide
      repeat' (refine N.go ?_; first | with_reducible (first | refine N.obl (by decide) ?_ | refine N.obl (flat_wi _ _ _) ?_ | refine N.obl (flat_lim _ _) ?_ | refine N.eq ?_ | refine N.obl rfl ?_ | refine N.obl ⟨by kernel_rfl, by kernel_rfl⟩ ?_ | refine N.alt ?_ | refine N.forkT ?_ | refine N.forkF ?_) | refine N.idx 1 1 (by decide) (by omega) ?_ | refine N.load _ (reads_num (p := 1) (by omega) (by omega)) ?_ | refine N.forkYes (by rw [hV2]; decide) ?_ | refine N.idx (j' + 1) 1 (by rw [e16, show IntKind.i64.wrap (0 + 1) = 1 from by decide, i64n _ (by omega) (by omega)]; omega) (by omega) ?_ | refine N.load _ (reads_num (p := j' + 1) (by omega) (by omega)) ?_ | refine N.forkNo (by decide) ?_ | refine N.forkYes (by decide) ?_ | refine N.forkYes (by rw [decide_eq_true_eq]; omega) ?_ | refine N.forkNo (by rw [decide_eq_false_iff_not]; omega) ?_ | refine N.obl trivial ?_ | exact N.true | fail)
      refine N.go ?_
      rw [f20, f21]
      refine N.store _ (writes_num (p := j' + 1) (v' := qY u2 w1 w0 A j') rfl (by omega) (by rw [qY_1 A j' hu2b hw1 hw0, IntKind.wrap_u32]; omega) (fun i _ hi => qY_set1 A j' hu2b hu1b hw0 hw1 i hi)) ?_
      repeat' (refine N.go ?_; first | with_reducible (first | refine N.obl (by decide) ?_ | refine N.obl (flat_wi _ _ _) ?_ | refine N.obl (flat_lim _ _) ?_ | refine N.eq ?_ | refine N.obl rfl ?_ | refine N.obl ⟨by kernel_rfl, by kernel_rfl⟩ ?_ | refine N.alt ?_ | refine N.forkT ?_ | refine N.forkF ?_) | refine N.forkNo (by rw [hV2]; decide) ?_ | refine N.idx (j' + 2) 1 (by rw [e16, hV2, i64n _ (by omega) (by omega)]; omega) (by omega) ?_ | refine N.load _ (reads_num (p := j' + 2) (by omega) (by omega)) ?_ | refine N.forkNo (by decide) ?_ | refine N.forkYes (by decide) ?_ | refine N.forkYes (by rw [decide_eq_true_eq]; omega) ?_ | refine N.forkNo (by rw [decide_eq_false_iff_not]; omega) ?_ | refine N.obl trivial ?_ | exact N.true | fail)
      refine N.go ?_
      rw [h21]
      refine N.store _ (writes_num (p := j' + 2) (v' := qY 0 w1 w0 A j') rfl (by omega) (by rw [qY_2 A j' (by decide) hw1 hw0]; rfl) (fun i _ hi => qY_set2 A j' hu2b hw1 hw0 (by decide) i hi)) ?_
      repeat' (refine N.go ?_; first | with_reducible (first | refine N.obl (by decide) ?_ | refine N.obl (flat_wi _ _ _) ?_ | refine N.obl (flat_lim _ _) ?_ | refine N.eq ?_ | refine N.obl rfl ?_ | refine N.obl ⟨by kernel_rfl, by kernel_rfl⟩ ?_ | refine N.alt ?_ | refine N.forkT ?_ | refine N.forkF ?_) | refine N.idx j' 1 (by rw [e16]) (by omega) ?_ | refine N.forkNo (by decide) ?_ | refine N.forkYes (by decide) ?_ | refine N.forkYes (by rw [decide_eq_true_eq]; omega) ?_ | refine N.forkNo (by rw [decide_eq_false_iff_not]; omega) ?_ | refine N.obl trivial ?_ | exact N.true | fail)
      refine N.go ?_
      refine N.store _ (writes_down (v := A / V) (i := j') rfl (by omega) (by rw [w32 Q, hQ, hr.quo, Nat.mod_eq_of_lt (lm_lt _ _)])) ?_
      have hUn : qY 0 w1 w0 A j' = A / bw j' % V * bw j' + A % bw j' := by unfold qY; rw [Nat.zero_mul, Nat.zero_add, sR, hr.rest]
      rw [hUn]
      repeat' (refine N.go ?_; first | with_reducible (first | refine N.obl (by decide) ?_ | refine N.obl (flat_wi _ _ _) ?_ | refine N.obl (flat_lim _ _) ?_ | refine N.eq ?_ | refine N.obl rfl ?_ | refine N.obl ⟨by kernel_rfl, by kernel_rfl⟩ ?_ | refine N.alt ?_ | refine N.forkT ?_ | refine N.forkF ?_) | refine N.forkNo (by decide) ?_ | refine N.forkYes (by decide) ?_ | refine N.forkYes (by rw [decide_eq_true_eq]; omega) ?_ | refine N.forkNo (by rw [decide_eq_false_iff_not]; omega) ?_ | refine N.obl trivial ?_ | exact N.true | fail)
      refine N.go ?_
      refine N.nextR (α := Nat) j' [(0, 0), (1, 1), (2, 2), (3, 3), (7, 7), (8, 8)] ⟨by show j' ≤ M + 1; omega, by show j' < j' + 1; omega⟩ ?_
      repeat' (refine N.go ?_; first | with_reducible (first | refine N.obl (by decide) ?_ | refine N.obl (flat_wi _ _ _) ?_ | refine N.obl (flat_lim _ _) ?_ | refine N.eq ?_ | refine N.obl rfl ?_ | refine N.obl ⟨by kernel_rfl, by kernel_rfl⟩ ?_ | refine N.alt ?_ | refine N.forkT ?_ | refine N.forkF ?_) | exact N.true | refine N.obl (num_ren (Nat.le_refl _)) ?_ | refine N.obl (re_eqn (inteq (by rw [i64n _ (by omega) (by omega)]; omega)) rfl) ?_ | refine N.obl (.plain (by rfl)) ?_ | refine N.obl (.one (.slice (by rfl))) ?_ | refine N.obl (.one (.ptr (by rfl))) ?_ | refine N.obl (ChunkReLe.same (agg_plain (by rfl) (by rfl))) ?_ | fail)
end Go.Proofs.Ytchfbblpflcniaa


/-
  The document's roots, wherever the words lie.
-/
set_option linter.unusedVariables false
set_option linter.unusedSimpArgs false
namespace Go.Proofs.Ytchfbblpflcniaa
open Go Go.RowKit Sx

set_option maxRecDepth 100000 in
set_option maxHeartbeats 2000000 in
theorem cQuoW (a y m q i j K L : Nat) (o o2 : Chunk) (h : List (Option Chunk)) (hi : h[i]? = some (some o)) (hin : IsNum o m a) (hj : h[j]? = some (some o2)) (hjn : IsNum o2 q y) (hl : nl a ≤ m) (hm : m ≤ 31) (hy : nl y = 1) (hq : 1 ≤ q ∧ q ≤ 31) (hya : y ≤ a) (h0 : h[K]? = some none) (h1 : h[L]? = some none) (hKL : K ≠ L) :
    CallOK Try.prog 76 [.slice (some ⟨i, 0, some 0⟩) (nl a) m, .slice (some ⟨j, 0, some 0⟩) (nl y) q] h (.tuple #[.slice (some ⟨K, 0, some 0⟩) (nl (a / y)) (nl a), .slice (some ⟨L, 0, some 0⟩) (nl (a % y)) 1]) [(K, numC true (nl a) (a / y)), (L, numC true 1 (a % y))] [i, j] := by
  have hy1 : y < 4294967296 := by have := nl_self y; rw [hy, bw_one] at this; exact this
  have hyp : 0 < y := by rcases Nat.eq_zero_or_pos y with e | e; (rw [e, nl_zero] at hy; omega); exact e
  have hy0 : lm y 0 = y := by unfold lm; rw [bw_zero, Nat.div_one]; exact Nat.mod_eq_of_lt hy1
  have hna : nl a ≠ 0 := fun e => by have := nl_zero_iff.1 e; omega
  have hcm : (0 : Int) ≤ cmpN a y := by unfold cmpN; rw [if_neg (by omega)]; split <;> decide
  have hdv : a / y < bw (nl a) := Nat.lt_of_le_of_lt (Nat.div_le_self _ _) (nl_self a)
  have hmd : a % y < y := Nat.mod_lt _ hyp
  refine call_sub (G := tys) [⟨i, _, numC false m a, ⟨false, 0, []⟩⟩, ⟨j, _, numC false q y, ⟨false, 0, []⟩⟩] [⟨K, 6, numC true (nl a) (a / y)⟩, ⟨L, 11, numC true 1 (a % y)⟩] [.slice (some ⟨0, 0, some 0⟩) (nl a) m, .slice (some ⟨1, 0, some 0⟩) (nl y) q] tysOK mixed Try.func76 (by rfl) (Try.call76) ⟨hi, hj, trivial⟩ ⟨⟨fun h => (by cases h), Nat.le_of_eq hin.1.symm, num_re hin⟩, ⟨fun h => (by cases h), Nat.le_of_eq hjn.1.symm, num_re hjn⟩, trivial⟩ (by simp [Apart]) ⟨⟨h0, rfl, by show 0 < nl a; omega, by simp [hKL]⟩, ⟨h1, rfl, by show 0 < 1; decide, by simp⟩, trivial⟩ ⟨.slice rfl, .slice rfl, trivial⟩ ?_
  repeat' (refine N.go ?_; first | with_reducible (first | refine N.obl (by decide) ?_ | refine N.obl (flat_wi _ _ _) ?_ | refine N.obl (flat_lim _ _) ?_ | refine N.eq ?_ | refine N.obl rfl ?_ | refine N.obl ⟨by kernel_rfl, by kernel_rfl⟩ ?_ | refine N.alt ?_ | refine N.forkT ?_ | refine N.forkF ?_) | refine MakeN.mk1 (nl a) (nl a) rfl rfl (by show 4 * (nl a) ≤ _; omega) (by omega) (Nat.mul_one _).symm ?_ | refine N.call (cCmp a y m q _ _ _ _ _ (by rfl) (isNum _ _ _) (by rfl) (isNum _ _ _) hl (by omega) (by omega) (by omega)) ?_ | refine N.forkYes (by rw [hy]; rfl) ?_ | refine N.forkNo (by decide) ?_ | refine N.forkYes (by decide) ?_ | refine N.forkYes (by rw [decide_eq_true_eq]; omega) ?_ | refine N.forkNo (by rw [decide_eq_false_iff_not]; omega) ?_ | refine N.obl trivial ?_ | exact N.true | fail)
  refine N.go ?_
  refine N.loop (α := Nat) (fun c => c ≤ nl a) (fun c => c) (fun c => [(8, .int .i64 ((c : Int) - 1)), (7, .int .u64 ((a / bw c % y : Nat) : Int))]) (fun c => [(6, numC true (nl a) (a / y / bw c * bw c))]) (nl a) (Nat.le_refl _) ?_ ?_
  · repeat (refine N.go ?_; first | exact N.true | with_reducible (first | refine N.obl rfl ?_ | refine N.obl (ChunkLe.refl _) ?_) | refine N.obl (int_i64 (by rw [IntWalk.i64_in _ (by omega)]; rfl)) ?_ | refine N.obl (inteq (by rw [i64n _ (by omega) (by omega)])) ?_ | refine N.obl (inteq (by rw [Nat.div_eq_of_lt (nl_self a), Nat.zero_mod]; rfl)) ?_ | refine N.obl (by rw [Nat.div_eq_of_lt hdv, Nat.zero_mul]; exact zeros_num) ?_ |  fail_if_success skip)
  · intro c hc
    have hc : c ≤ nl a := hc
    rcases Nat.eq_zero_or_pos c with rfl | hp
    · have he : a / y / bw 0 * bw 0 = a / y := by rw [bw_zero, Nat.div_one, Nat.mul_one]
      have hr : a / bw 0 % y = a % y := by rw [bw_zero, Nat.div_one]
      repeat' (refine N.go ?_; first | with_reducible (first | refine N.obl (by decide) ?_ | refine N.obl (flat_wi _ _ _) ?_ | refine N.obl (flat_lim _ _) ?_ | refine N.eq ?_ | refine N.obl rfl ?_ | refine N.obl ⟨by kernel_rfl, by kernel_rfl⟩ ?_ | refine N.alt ?_ | refine N.forkT ?_ | refine N.forkF ?_) | refine N.call (cTrim (a / y) (nl a) (nl a) _ _ _ (by rfl) (by rw [he]; exact isNum _ _ _) (Nat.le_refl _) (by omega) hdv) ?_ | refine N.call (cTrim (a % y) 1 1 _ _ _ (by rfl) (isNum1 (by rw [hr, w32])) (Nat.le_refl _) (by omega) (by rw [bw_one]; omega)) ?_ | refine N.obl (.tuple ⟨.slice (by rfl), .slice (by rfl), trivial⟩) ?_ | refine N.obl ⟨⟨by show 2 ≤ 6; decide, post_num (by rfl) rfl (by rw [he]; exact isNum _ _ _)⟩, ⟨by show 2 ≤ 11; decide, post_num (by rfl) rfl (isNum1 (by rw [hr, w32]))⟩, trivial⟩ ?_ | refine N.forkNo (by decide) ?_ | refine N.forkYes (by decide) ?_ | refine N.forkYes (by rw [decide_eq_true_eq]; omega) ?_ | refine N.forkNo (by rw [decide_eq_false_iff_not]; omega) ?_ | refine N.obl trivial ?_ | exact N.true | fail)
    · obtain ⟨k, rfl⟩ : ∃ k, c = k + 1 := ⟨c - 1, by omega⟩
      obtain ⟨d1, d2, d3, d4⟩ := div_word a y k hyp hy1
      have e1 : (((k + 1 : Nat) : Int) - 1) = (k : Int) := by omega
      have hr : a / bw (k + 1) % y < y := Nat.mod_lt _ hyp
      generalize a / bw (k + 1) % y = r at *
      have hx := lm_lt a k
      have ev : IntKind.u64.wrap ((BitVec.ofInt IntKind.u64.bits (IntKind.u64.wrap ((r : Int) * 2 ^ sh 32 IntKind.u64)) ||| BitVec.ofInt IntKind.u64.bits (IntKind.u64.wrap ((lm a k : Nat) : Int))).toNat : Nat) = ((r * 4294967296 + lm a k : Nat) : Int) := shl_or r (lm a k) y hr hy1 hx
      generalize hT : r * 4294967296 + lm a k = T at *
      have ey : IntKind.u64.wrap ((lm y 0 : Nat) : Int) = (y : Int) := by rw [hy0, w64 (by omega)]
      have hyz : IntKind.u64.wrap ((lm y 0 : Nat) : Int) ≠ 0 := by rw [ey]; omega
      repeat' (refine N.go ?_; first | with_reducible (first | refine N.obl (by decide) ?_ | refine N.obl (flat_wi _ _ _) ?_ | refine N.obl (flat_lim _ _) ?_ | refine N.eq ?_ | refine N.obl rfl ?_ | refine N.obl ⟨by kernel_rfl, by kernel_rfl⟩ ?_ | refine N.alt ?_ | refine N.forkT ?_ | refine N.forkF ?_) | refine N.idx k 1 e1 (by omega) ?_ | refine N.load _ (reads_num (p := k) (by omega) (by omega)) ?_ | refine N.idx 0 1 rfl (by omega) ?_ | refine N.load _ (reads_num (p := 0) (by omega) (by omega)) ?_ | refine N.obl hyz ?_ | refine N.store _ (writes_down rfl (by omega) (by rw [ev, ey, ← Int.ofNat_tdiv]; (try rw [w64 (by omega)]); rw [w32, d1]; omega)) ?_ | refine N.forkNo (by decide) ?_ | refine N.forkYes (by decide) ?_ | refine N.forkYes (by rw [decide_eq_true_eq]; omega) ?_ | refine N.forkNo (by rw [decide_eq_false_iff_not]; omega) ?_ | refine N.obl trivial ?_ | exact N.true | fail)
      refine N.go ?_
      refine N.next k ⟨by show k ≤ nl a; omega, by omega⟩ ?_
      repeat (refine N.go ?_; first | exact N.true | with_reducible (first | refine N.obl rfl ?_ | refine N.obl (ChunkLe.refl _) ?_) | refine N.obl (int_i64 (by rw [IntWalk.i64_in _ (by omega)]; rfl)) ?_ | refine N.obl (inteq (by rw [e1]; exact i64n _ (by omega) (by omega))) ?_ | refine N.obl (inteq (by rw [ev, ey, ← Int.ofNat_tmod, d2])) ?_ |  fail_if_success skip)
set_option maxRecDepth 100000 in
set_option maxHeartbeats 2000000 in
theorem cQuoLtW (a y m q i j : Nat) (o o2 : Chunk) (h : List (Option Chunk)) (hi : h[i]? = some (some o)) (hin : IsNum o m a) (hj : h[j]? = some (some o2)) (hjn : IsNum o2 q y) (hl : nl a ≤ m) (hm : m ≤ 31) (hl2 : nl y ≤ q) (hq : q ≤ 31) (hlt : a < y) :
    CallOK Try.prog 76 [.slice (some ⟨i, 0, some 0⟩) (nl a) m, .slice (some ⟨j, 0, some 0⟩) (nl y) q] h (.tuple #[.slice none 0 0, .slice (some ⟨i, 0, some 0⟩) (nl a) m]) [] [i, j] := by
  have hcm : cmpN a y = -1 := by unfold cmpN; rw [if_pos hlt]
  refine call_sub (G := tys) [⟨i, _, numC false m a, ⟨false, 0, []⟩⟩, ⟨j, _, numC false q y, ⟨false, 0, []⟩⟩] [] [.slice (some ⟨0, 0, some 0⟩) (nl a) m, .slice (some ⟨1, 0, some 0⟩) (nl y) q] tysOK mixed Try.func76 (by rfl) (Try.call76) ⟨hi, hj, trivial⟩ ⟨⟨fun h => (by cases h), Nat.le_of_eq hin.1.symm, num_re hin⟩, ⟨fun h => (by cases h), Nat.le_of_eq hjn.1.symm, num_re hjn⟩, trivial⟩ (by simp [Apart]) trivial ⟨.slice rfl, .slice rfl, trivial⟩ ?_
  repeat' (refine N.go ?_; first | with_reducible (first | refine N.obl (by decide) ?_ | refine N.obl (flat_wi _ _ _) ?_ | refine N.obl (flat_lim _ _) ?_ | refine N.eq ?_ | refine N.obl rfl ?_ | refine N.obl ⟨by kernel_rfl, by kernel_rfl⟩ ?_ | refine N.alt ?_ | refine N.forkT ?_ | refine N.forkF ?_) | refine N.call (cCmp a y m q _ _ _ _ _ (by rfl) (isNum _ _ _) (by rfl) (isNum _ _ _) hl (by omega) (by omega) (by omega)) ?_ | refine N.forkYes (by rw [hcm]; decide) ?_ | refine N.obl (.tuple ⟨.plain rfl, .slice (by rfl), trivial⟩) ?_ | refine N.forkNo (by decide) ?_ | refine N.forkYes (by decide) ?_ | refine N.forkYes (by rw [decide_eq_true_eq]; omega) ?_ | refine N.forkNo (by rw [decide_eq_false_iff_not]; omega) ?_ | refine N.obl trivial ?_ | exact N.true | fail)
set_option maxRecDepth 100000 in
set_option maxHeartbeats 2000000 in
theorem cPlusXW (a m i K : Nat) (o : Chunk) (h : List (Option Chunk)) (hi : h[i]? = some (some o)) (hin : IsNum o m a) (hl : nl a ≤ m) (hm : m ≤ 31) (h0 : h[K]? = some none) :
    CallOK Try.prog 78 [.slice (some ⟨i, 0, some 0⟩) (nl a) m, .slice none 0 0] h (.slice (some ⟨K, 0, some 0⟩) (nl a) (nl a + 1)) [(K, numC true (nl a + 1) a)] [i] := by
  have hs : a < bw (nl a + 1) := Nat.lt_of_lt_of_le (nl_self a) (bw_mono (Nat.le_succ _))
  refine call_sub (G := tys) [⟨i, _, numC false m a, ⟨false, 0, []⟩⟩] [⟨K, 5, numC true (nl a + 1) a⟩] [.slice (some ⟨0, 0, some 0⟩) (nl a) m, .slice none 0 0] tysOK mixed Try.func78 (by rfl) (Try.call78) ⟨hi, trivial⟩ ⟨⟨fun h => (by cases h), Nat.le_of_eq hin.1.symm, num_re hin⟩, trivial⟩ (by simp [Apart]) ⟨⟨h0, rfl, by show 0 < nl a + 1; omega, by simp⟩, trivial⟩ ⟨.slice rfl, .plain rfl, trivial⟩ ?_
  repeat' (refine N.go ?_; first | with_reducible (first | refine N.obl (by decide) ?_ | refine N.obl (flat_wi _ _ _) ?_ | refine N.obl (flat_lim _ _) ?_ | refine N.eq ?_ | refine N.obl rfl ?_ | refine N.obl ⟨by kernel_rfl, by kernel_rfl⟩ ?_ | refine N.alt ?_ | refine N.forkT ?_ | refine N.forkF ?_) | refine MakeN.mk1 (nl a + 1) (nl a + 1) (by rw [i64n _ (by omega) (by omega)]; rfl) (by rw [i64n _ (by omega) (by omega)]; rfl) (by show 4 * (nl a + 1) ≤ _; omega) (by omega) (Nat.mul_one _).symm ?_ | refine N.forkNo (by decide) ?_ | refine N.forkYes (by decide) ?_ | refine N.forkYes (by rw [decide_eq_true_eq]; omega) ?_ | refine N.forkNo (by rw [decide_eq_false_iff_not]; omega) ?_ | refine N.obl trivial ?_ | exact N.true | fail)
  refine N.go ?_
  refine N.loop (α := Nat) (fun i => i ≤ nl a) (fun i => nl a - i) (fun i => [(21, .int .i64 (i : Int)), (6, .int .u64 0)]) (fun i => [(5, numC true (nl a + 1) (a % bw i))]) 0 (Nat.zero_le _) ?_ ?_
  · repeat (refine N.go ?_; first | exact N.true | with_reducible (first | refine N.obl rfl ?_ | refine N.obl (ChunkLe.refl _) ?_) | refine N.obl (int_i64 (by rw [IntWalk.i64_in _ (by omega)]; rfl)) ?_ | refine N.obl (by rw [bw_zero, Nat.mod_one]; exact zeros_num) ?_ |  fail_if_success skip)
  · intro i hi'
    have hi' : i ≤ nl a := hi'
    rcases Nat.lt_or_ge i (nl a) with hlt | hge
    · have hx := lm_lt a i
      have ev : IntKind.u64.wrap (0 + IntKind.u64.wrap ((lm a i : Nat) : Int)) = ((lm a i : Nat) : Int) := by rw [w64 (n := lm a i) (by omega), Int.zero_add, w64 (by omega)]
      repeat' (refine N.go ?_; first | with_reducible (first | refine N.obl (by decide) ?_ | refine N.obl (flat_wi _ _ _) ?_ | refine N.obl (flat_lim _ _) ?_ | refine N.eq ?_ | refine N.obl rfl ?_ | refine N.obl ⟨by kernel_rfl, by kernel_rfl⟩ ?_ | refine N.alt ?_ | refine N.forkT ?_ | refine N.forkF ?_) | refine N.store _ (writes_next rfl (by omega) (by rw [ev, w32]; omega)) ?_ | refine N.idx i 1 rfl (by omega) ?_ | refine N.load _ (reads_num (p := i) (by omega) (by omega)) ?_ | refine N.forkNo (by decide) ?_ | refine N.forkYes (by decide) ?_ | refine N.forkYes (by rw [decide_eq_true_eq]; omega) ?_ | refine N.forkNo (by rw [decide_eq_false_iff_not]; omega) ?_ | refine N.obl trivial ?_ | exact N.true | fail)
      refine N.go ?_
      refine N.next (i + 1) ⟨by show i + 1 ≤ nl a; omega, by omega⟩ ?_
      repeat (refine N.go ?_; first | exact N.true | with_reducible (first | refine N.obl rfl ?_ | refine N.obl (ChunkLe.refl _) ?_) | refine N.obl (int_i64 (by rw [IntWalk.i64_in _ (by omega)]; rfl)) ?_ | refine N.obl (inteq (by rw [i64n _ (by omega) (by omega)]; omega)) ?_ | refine N.obl (inteq (by rw [ev, fd32]; omega)) ?_ |  fail_if_success skip)
    · obtain rfl : i = nl a := by omega
      have hc : lm a (nl a) = 0 := lm_big (nl_self a)
      have he : a % bw (nl a + 1) = a := Nat.mod_eq_of_lt hs
      repeat' (refine N.go ?_; first | with_reducible (first | refine N.obl (by decide) ?_ | refine N.obl (flat_wi _ _ _) ?_ | refine N.obl (flat_lim _ _) ?_ | refine N.eq ?_ | refine N.obl rfl ?_ | refine N.obl ⟨by kernel_rfl, by kernel_rfl⟩ ?_ | refine N.alt ?_ | refine N.forkT ?_ | refine N.forkF ?_) | refine N.idx (nl a) 1 rfl (by omega) ?_ | refine N.store _ (writes_next rfl (by omega) (by rw [hc]; decide)) ?_ | refine N.call (cTrim a (nl a + 1) (nl a + 1) _ _ _ (by rfl) (by rw [he]; exact isNum _ _ _) (by omega) (by omega) hs) ?_ | refine N.obl (re_sl (by rfl) rfl) ?_ | refine N.obl ⟨⟨by show 1 ≤ 5; decide, post_num (by rfl) rfl (by rw [he]; exact isNum _ _ _)⟩, trivial⟩ ?_ | refine N.forkNo (by decide) ?_ | refine N.forkYes (by decide) ?_ | refine N.forkYes (by rw [decide_eq_true_eq]; omega) ?_ | refine N.forkNo (by rw [decide_eq_false_iff_not]; omega) ?_ | refine N.obl trivial ?_ | exact N.true | fail)
theorem num_newQ {P : Program} {g : FuncId} {vs xs : List Value} {es : List Nm} {m v l c : Nat} {d : Chunk} {rh : List Nat} {w : World} (hr : ∀ xs w, (callFunc g xs).run P w = .ok (.enter g xs) w) (he : ∀ e ∈ es, NumAt w e) (hx : All2 (NArg es) vs xs) (hm : 0 < m ∧ m ≤ 31) (hl : nl v ≤ m)
    (hc : CallOK P g vs (numH es ++ [none, none]) (.tuple #[.slice (some ⟨es.length, 0, some 0⟩) (nl v) m, .slice (some ⟨es.length + 1, 0, some 0⟩) l c]) [(es.length, numC true m v), (es.length + 1, d)] rh) : MkQ P g xs w v := by
  rcases hc _ (fun _ _ => rfl) (fun _ _ => rfl) _ _ w xs (num_hok 2 he) (narg_den (m := 2) hx) with ⟨x, w', hrun, _⟩ | ⟨_, hcl⟩
  · rw [hr] at hrun; cases hrun
  refine hcl.mono ?_
  rintro e w' ⟨x, rfl, ρ', _, H, hd⟩
  have hk : (modH (numH es ++ [none, none]) [(es.length, numC true m v), (es.length + 1, d)])[es.length]? = some (some (numC true m v)) := by
    show (((numH es ++ [none, none]).set es.length _).set (es.length + 1) _)[es.length]? = _
    rw [List.getElem?_set_ne (by omega), List.getElem?_set_self (by simp [numH])]
  refine ⟨⟨v, (ρ' es.length).1, (ρ' es.length).2, m⟩, some ⟨(ρ' (es.length + 1)).1, (ρ' (es.length + 1)).2, none⟩, l, c, rfl, ?_, rfl, H.evo.below, ⟨H.lt _ _ hk, hl, hm.2, fun j hj => ?_⟩, ?_⟩
  · rw [← hd.self]
    simp only [den, den2, List.map_toArray, List.map_cons, List.map_nil, den1, den0, denA, Nat.add_zero]
  · obtain ⟨y, hy, hyd⟩ := H.cell _ _ hk j hj
    rw [seg_cell hj] at hyd
    rw [hy, ← hyd.self]; rfl
  · rcases (H.own _ _ hk rfl 0 hm.1).2 with h1 | h1
    · exact h1
    · exact h1.elim
theorem mkq_arM {P : Program} {g : FuncId} {vs : List Value} {qs : List AV} {h : List (Option Chunk)} {L : List Nm} (i : Nat) (hi : h[i]? = some (some (arC L))) (v : Nat) (hr : ∀ xs w, (callFunc g xs).run P w = .ok (.enter g xs) w) (ha : All2 (ArgS h L) vs qs) (hc : ∀ w xs, All2 (AR w) qs xs → MkQ P g xs w v) :
    CallAll P g vs h fun x ms => ∃ κ : Nm × Option Addr × Nat × Nat, (κ.1.v = v ∧ plain2 (.slice κ.2.1 κ.2.2.1 κ.2.2.2) = true) ∧ x = .tuple #[.slice (some ⟨κ.1.b, κ.1.o, none⟩) (nl κ.1.v) κ.1.c, .slice κ.2.1 κ.2.2.1 κ.2.2.2] ∧ ms = [(i, arC (κ.1 :: L))] :=
  call_arM i hi (fun κ : Nm × Option Addr × Nat × Nat => κ.1.v = v ∧ plain2 (.slice κ.2.1 κ.2.2.1 κ.2.2.2) = true) (fun κ => .tuple #[.slice (some ⟨κ.1.b, κ.1.o, none⟩) (nl κ.1.v) κ.1.c, .slice κ.2.1 κ.2.2.1 κ.2.2.2]) (fun κ => [κ.1]) hr ha (fun κ hκ => by simp only [plain3, List.all_cons, List.all_nil, hκ.2]; rfl) fun w xs hx => (hc w xs hx).mono fun e w' ⟨κ, oa, l, c, h1, h2, h3, h4, h5, h6⟩ => ⟨(κ, oa, l, c), ⟨h1, h3⟩, h2, h4, fun n hn => by rw [List.mem_singleton.1 hn]; exact ⟨h5, h6⟩⟩
theorem nl_one' : nl 1 = 1 := nl_eq (by rw [bw_one]; decide) (by rw [bw_zero]; exact Nat.le_refl _)
theorem wQuo (a y : Nat) (ha : nl a ≤ 18) (hy : nl y = 1 ∨ nl y = 2) (hge : y ≤ a) (w : World) (xs : List Value) (hx : All2 (AR w) [.sl a, .sl y] xs) : MkQ Try.prog 76 xs w (a / y) := by
  obtain ⟨e, e', rfl, h1, v1, h2, v2⟩ := ar_sl2 hx
  subst v1 v2
  rcases hy with hy | hy
  · have hc := h1.cap
    have hl := h1.len
    have hc' := h2.cap
    have hl' := h2.len
    have hna : nl e.v ≠ 0 := fun h => by have := nl_zero_iff.1 h; have h0 : e'.v = 0 := by omega
                                         rw [h0, nl_zero] at hy; cases hy
    exact num_newQ (es := [e, e']) (Try.call76) (two_at h1 h2) (vs := [.slice (some ⟨0, 0, some 0⟩) (nl e.v) e.c, .slice (some ⟨1, 0, some 0⟩) (nl e'.v) e'.c]) (xs := [e.sl, e'.sl]) ⟨.sl rfl, .sl rfl, trivial⟩ ⟨by omega, by omega⟩ (nl_mono (Nat.div_le_self _ _)) (cQuoW e.v e'.v e.c e'.c 0 1 2 3 _ _ _ rfl (isNum _ _ _) rfl (isNum _ _ _) hl hc hy ⟨by omega, hc'⟩ hge rfl rfl (by decide))
  · exact quo2_x e.v e'.v e.c e'.c e.b e.o e'.b e'.o w h1 h2 ha hy hge
theorem ar_slpl {w : World} {a : Nat} {v : Value} {xs : List Value} (hx : All2 (AR w) [.sl a, .pl v] xs) : ∃ e : Nm, xs = [e.sl, v] ∧ NumAt w e ∧ e.v = a := by
  rcases xs with _ | ⟨x, _ | ⟨y, _ | ⟨z, xs⟩⟩⟩ <;> first | exact hx.elim | exact hx.2.elim | exact hx.2.2.elim | skip
  obtain ⟨h1, h2, _⟩ := hx
  cases h1 with
  | sl a1 v1 => cases h2 with
    | pl _ => exact ⟨_, rfl, a1, v1⟩
/-- A quotient that is nothing. -/
def MkQ0 (P : Program) (g : FuncId) (xs : List Value) (w : World) : Prop := Calls P g ⟨xs⟩ w fun e w' => ∃ (oa : Option Addr) (l c : Nat), e = .returned (.tuple #[.slice none 0 0, .slice oa l c]) ∧ plain2 (.slice oa l c) = true ∧ Below w.heap.size w w'
theorem mkq0_arM {P : Program} {g : FuncId} {vs : List Value} {qs : List AV} {h : List (Option Chunk)} {L : List Nm} (i : Nat) (hi : h[i]? = some (some (arC L))) (hr : ∀ xs w, (callFunc g xs).run P w = .ok (.enter g xs) w) (ha : All2 (ArgS h L) vs qs) (hc : ∀ w xs, All2 (AR w) qs xs → MkQ0 P g xs w) :
    CallAll P g vs h fun x ms => ∃ κ : Option Addr × Nat × Nat, plain2 (.slice κ.1 κ.2.1 κ.2.2) = true ∧ x = .tuple #[.slice none 0 0, .slice κ.1 κ.2.1 κ.2.2] ∧ ms = [(i, arC L)] :=
  call_arM i hi (fun κ : Option Addr × Nat × Nat => plain2 (.slice κ.1 κ.2.1 κ.2.2) = true) (fun κ => .tuple #[.slice none 0 0, .slice κ.1 κ.2.1 κ.2.2]) (fun κ => []) hr ha (fun κ hκ => by simp only [plain3, List.all_cons, List.all_nil, hκ]; rfl) fun w xs hx => (hc w xs hx).mono fun e w' ⟨oa, l, c, h2, h3, h4⟩ => ⟨(oa, l, c), h3, h2, h4, fun n hn => by cases hn⟩
theorem wQuoLt (a y : Nat) (hlt : a < y) (w : World) (xs : List Value) (hx : All2 (AR w) [.sl a, .sl y] xs) : MkQ0 Try.prog 76 xs w := by
  obtain ⟨e, e', rfl, h1, v1, h2, v2⟩ := ar_sl2 hx
  subst v1 v2
  rcases (cQuoLtW e.v e'.v e.c e'.c 0 1 _ _ (numH [e, e'] ++ []) rfl (isNum _ _ _) rfl (isNum _ _ _) h1.len h1.cap h2.len h2.cap hlt) _ (fun _ _ => rfl) (fun _ _ => rfl) _ _ w [e.sl, e'.sl] (num_hok 0 (two_at h1 h2)) (narg_den (es := [e, e']) (m := 0) (vs := [.slice (some ⟨0, 0, some 0⟩) (nl e.v) e.c, .slice (some ⟨1, 0, some 0⟩) (nl e'.v) e'.c]) ⟨.sl rfl, .sl rfl, trivial⟩) with ⟨x, w', hrun, _⟩ | ⟨_, hcl⟩
  · rw [Try.call76] at hrun; cases hrun
  refine hcl.mono ?_
  rintro e0 w' ⟨x, rfl, ρ', ha, H, hd⟩
  refine ⟨some ⟨(ρ' 0).1, (ρ' 0).2, none⟩, nl e.v, e.c, ?_, rfl, H.evo.below⟩
  rw [← hd.self]
  simp only [den, den2, List.map_toArray, List.map_cons, List.map_nil, den1, den0, denA, Nat.add_zero]
theorem wPlusX (a : Nat) (ha : nl a ≤ 30) (w : World) (xs : List Value) (hx : All2 (AR w) [.sl a, .pl (.slice none 0 0)] xs) : Mk Try.prog 78 xs w a Nm.sl := by
  obtain ⟨e, rfl, h1, v1⟩ := ar_slpl hx
  subst v1
  exact num_new (V := fun K => .slice (some ⟨K, 0, some 0⟩) (nl e.v) (nl e.v + 1)) (es := [e]) (Try.call78) (one_at h1) (vs := [.slice (some ⟨0, 0, some 0⟩) (nl e.v) e.c, .slice none 0 0]) (xs := [e.sl, .slice none 0 0]) ⟨.sl rfl, .pl rfl, trivial⟩ ⟨by omega, by omega⟩ (by omega) Nm.sl (fun r => rfl) (cPlusXW e.v e.c 0 1 _ _ rfl (isNum _ _ _) h1.len h1.cap rfl)
theorem wRight (a : Nat) (hp : 0 < a) (hl : nl a ≤ 20) (w : World) (xs : List Value) (hx : All2 (AR w) [.sl a, .pl (.int .i64 1)] xs) : Mk Try.prog 77 xs w (a / 2) (fun κ => .tuple #[.slice (some ⟨κ.b, κ.o, none⟩) (nl κ.v) κ.c, .bool (lostS a 1)]) := by
  obtain ⟨e, rfl, h1, v1⟩ := ar_slpl hx
  subst v1
  have hn : nl e.v ≠ 0 := fun h => by have := nl_zero_iff.1 h; omega
  exact num_new (V := fun K => .tuple #[.slice (some ⟨K, 0, some 0⟩) (nl (e.v / 2)) (nl e.v), .bool (lostS e.v 1)]) (es := [e]) (Try.call77) (one_at h1) (vs := [.slice (some ⟨0, 0, some 0⟩) (nl e.v) e.c, .int .i64 1]) (xs := [e.sl, .int .i64 1]) ⟨.sl rfl, .pl rfl, trivial⟩ ⟨by omega, by omega⟩ (nl_mono (Nat.div_le_self _ _)) _ (fun r => by simp only [den, den2, List.map_toArray, List.map_cons, List.map_nil, den1, den0, denA, Nat.add_zero]) (cRightS e.v 1 e.c 0 1 _ _ rfl (isNum _ _ _) h1.len hl (by omega) (by decide) rfl)
theorem wLeft1 (n : Nat) (z : Int) (hz : z = (n : Int)) (hn : n ≤ 320) (w : World) (xs : List Value) (hx : All2 (AR w) [.sl 1, .pl (.int .i64 z)] xs) : Mk Try.prog 74 xs w (2 ^ n) Nm.sl := by
  obtain ⟨e, rfl, h1, v1⟩ := ar_slpl hx
  have e1 : nl e.v = 1 := by rw [v1]; exact nl_one'
  have e2 : e.v * 2 ^ n = 2 ^ n := by rw [v1, Nat.one_mul]
  rw [← e2]
  exact num_new (V := fun K => .slice (some ⟨K, 0, some 0⟩) (nl (e.v * 2 ^ n)) (nl e.v + n / 32 + 1)) (es := [e]) (Try.call74) (one_at h1) (vs := [.slice (some ⟨0, 0, some 0⟩) (nl e.v) e.c, .int .i64 z]) (xs := [e.sl, .int .i64 z]) ⟨.sl rfl, .pl rfl, trivial⟩ ⟨by omega, by omega⟩ (nl_le.2 (left_len _ _)) Nm.sl (fun r => rfl) (cLeftG e.v n e.c 0 1 z hz _ _ rfl (isNum _ _ _) h1.len h1.cap (by omega) hn rfl)
theorem bn_low : ∀ (n v : Nat), bn v = n + 1 → 2 ^ n ≤ v
  | 0, v, h => by
    rcases Nat.eq_zero_or_pos v with rfl | hv
    · simp [bn] at h
    · exact hv
  | n + 1, v, h => by
    rcases Nat.eq_zero_or_pos v with rfl | hv
    · simp [bn] at h
    · rw [bn_pos hv] at h
      have := bn_low n (v / 2) (by omega)
      rw [Nat.pow_succ]; omega
theorem bitn_low {a : Nat} (h : 0 < a) : 0 < bitn a ∧ 2 ^ (bitn a - 1) ≤ a := by
  have ht := top_word h
  unfold bitn
  rw [if_neg (by omega)]
  generalize nl a - 1 = y at *
  obtain ⟨n, hn⟩ : ∃ n, bn (lm a y) = n + 1 := ⟨bn (lm a y) - 1, by
    have : bn (lm a y) ≠ 0 := fun e => by rw [bn_pos (Nat.pos_of_ne_zero ht)] at e; omega
    omega⟩
  have h2 := bn_low n _ hn
  rw [hn]
  refine ⟨by omega, ?_⟩
  rw [show 32 * y + (n + 1) - 1 = n + 32 * y by omega, Nat.pow_add, ← bw_two]
  refine Nat.le_trans (Nat.mul_le_mul_right _ h2) (Nat.le_trans (Nat.mul_le_mul_right _ (show lm a y ≤ a / bw y from Nat.mod_le _ _)) (Nat.div_mul_le_self _ _))
theorem srcs_one {h : List (Option Chunk)} {L : List Nm} {j : Nat} {o : Chunk} (hj : h[j]? = some (some o)) (hn : IsNum o 1 1) : SrcS h L (.slice (some ⟨j, 0, some 0⟩) 1 1) 1 := by
  have := SrcS.ch (L := L) hj hn (by rw [nl_one']; exact Nat.le_refl _) (by decide)
  rwa [nl_one'] at this
theorem cACmp (κ κ' : Nm) (i : Nat) {L : List Nm} {h : List (Option Chunk)} (hi : h[i]? = some (some (arC L))) (hκ : κ ∈ L) (hκ' : κ' ∈ L) :
    CallOK Try.prog 79 [.slice (some ⟨κ.b, κ.o, none⟩) (nl κ.v) κ.c, .slice (some ⟨κ'.b, κ'.o, none⟩) (nl κ'.v) κ'.c] h (.int .i64 (cmpN κ.v κ'.v)) [] [i] :=
  call_arP (qs := [.at_ κ, .at_ κ']) [i] i (.inl hi) (.inl (List.mem_singleton.2 rfl)) (Try.call79) (fun _ _ => ⟨.at_ hκ, .at_ hκ', trivial⟩) rfl fun w xs hx => by
    rcases xs with _ | ⟨x, _ | ⟨y, _ | ⟨z, xs⟩⟩⟩ <;> first | exact hx.elim | exact hx.2.elim | exact hx.2.2.elim | skip
    obtain ⟨h1, h2, _⟩ := hx
    cases h1 with
    | at_ ha => cases h2 with
      | at_ hb => exact wCmp κ.v κ'.v w _ ⟨.sl ha rfl, .sl hb rfl, trivial⟩
set_option maxRecDepth 100000 in
set_option maxHeartbeats 2000000 in
theorem wSqrt (a : Nat) (ha : 1 ≤ a ∧ a < 1267650600228229401496703205376) (w : World) (xs : List Value) (hx : All2 (AR w) [.big false a] xs) : Mk Try.prog 48 xs w (isq a) (fun κ => .tuple #[.agg #[.bool false, .bool false, .slice (some ⟨κ.b, κ.o, none⟩) (nl κ.v) κ.c], .int .i64 0]) := by
  obtain ⟨e, rfl, h1, v1⟩ := ar_big1 hx
  subst v1
  have hna : nl e.v ≠ 0 := fun h => by have := nl_zero_iff.1 h; omega
  have hn4 : nl e.v ≤ 4 := nl_le.2 (Nat.lt_trans ha.2 (by decide))
  obtain ⟨hb0, hlow⟩ := bitn_low (a := e.v) (by omega)
  have hself := bitn_self e.v
  obtain ⟨b, hb⟩ : ∃ b, b = bitn e.v := ⟨_, rfl⟩
  rw [← hb] at hb0 hlow hself
  have hb100 : b ≤ 100 := by
    rcases Nat.lt_or_ge 100 b with h | h
    · have := Nat.pow_le_pow_right (n := 2) (by decide) (show 100 ≤ b - 1 by omega)
      rw [show (2 : Nat) ^ 100 = 1267650600228229401496703205376 from by decide] at this
      omega
    · exact h
  have hn : IntKind.i64.wrap (IntKind.i64.wrap (((b : Nat) : Int).tdiv 2) + 1) = ((b / 2 + 1 : Nat) : Int) := by
    rw [Int.tdiv_eq_ediv_of_nonneg (by omega), i64n (_ / 2) (by omega) (by omega), i64n _ (by omega) (by omega)]; omega
  have hx1 : 1 ≤ 2 ^ (b / 2 + 1) := Nat.pow_pos (by decide)
  have hx2 : e.v < 2 ^ (b / 2 + 1) * 2 ^ (b / 2 + 1) := by
    rw [← Nat.pow_add]
    exact Nat.lt_of_lt_of_le hself (Nat.pow_le_pow_right (by decide) (by omega))
  have hx3 : isq e.v ≤ 2 ^ (b / 2 + 1) := Nat.le_of_lt (isq_below hx2)
  have hx5 : 2 ^ (b / 2 + 1) ≤ 2251799813685248 := Nat.pow_le_pow_right (n := 2) (by decide) (show b / 2 + 1 ≤ 51 by omega)
  have hsp : 0 < isq e.v := isq_pos (by omega)
  refine calls_nums (es := [e]) (vs := [.agg #[.bool false, .bool false, .slice (some ⟨0, 0, some 0⟩) (nl e.v) e.c]]) (xs := [e.big false]) w tysOK mixed Try.func48 (by rfl) (one_at h1) ⟨.big rfl, trivial⟩ (fun _ => rfl) ?_
  repeat' (refine N.go ?_; first | with_reducible (first | refine N.obl (by decide) ?_ | refine N.obl (flat_wi _ _ _) ?_ | refine N.obl (flat_lim _ _) ?_ | refine N.eq ?_ | refine N.obl rfl ?_ | refine N.obl ⟨by kernel_rfl, by kernel_rfl⟩ ?_ | refine N.alt ?_ | refine N.forkT ?_ | refine N.forkF ?_) | refine N.call (cBits32 e.v e.c _ _ _ (by rfl) (isNum _ _ _) h1.len (by have := h1.cap; omega)) ?_ | refine N.forkNo (by rw [beq_eq_false_iff_ne]; omega) ?_ | refine N.forkNo (by decide) ?_ | refine N.forkYes (by decide) ?_ | fail)
  refine N.go ?_
  rw [← hb]
  refine N.callAll (mk_arN 5 (by rfl) (2 ^ (b / 2 + 1)) Nm.sl (Try.call74) (qs := [.sl 1, .pl (.int .i64 _)]) ⟨.sl (srcs_one (by rfl) (isNum1 (by decide))), .pl rfl, trivial⟩ (fun _ => rfl) (wLeft1 (b / 2 + 1) _ hn (by omega))) fun v ms hR => ?_
  obtain ⟨κ0, hκ0, rfl, rfl⟩ := hR
  repeat' (refine N.go ?_; first | with_reducible (first | refine N.obl (by decide) ?_ | refine N.obl (flat_wi _ _ _) ?_ | refine N.obl (flat_lim _ _) ?_ | refine N.eq ?_ | refine N.obl rfl ?_ | refine N.obl ⟨by kernel_rfl, by kernel_rfl⟩ ?_ | refine N.alt ?_ | refine N.forkT ?_ | refine N.forkF ?_) | refine N.forkNo (by decide) ?_ | refine N.forkYes (by decide) ?_ | fail)
  refine N.go ?_
  refine N.loop (α := Nm × List Nm) (fun x => isq e.v ≤ x.1.v ∧ nl x.1.v ≤ 2 ∧ x.1 ∈ x.2) (fun x => x.1.v) (fun x => [(4, .slice (some ⟨x.1.b, x.1.o, none⟩) (nl x.1.v) x.1.c)]) (fun x => [(5, arC x.2)]) (κ0, [κ0]) ⟨by rw [hκ0]; exact hx3, by rw [hκ0]; exact nl_le.2 (Nat.lt_of_le_of_lt hx5 (by decide)), List.mem_singleton.2 rfl⟩ ?_ ?_
  · repeat (refine N.go ?_; first | exact N.true | with_reducible (first | refine N.obl rfl ?_ | refine N.obl (ChunkLe.refl _) ?_) | refine N.obl (int_i64 (by rw [IntWalk.i64_in _ (by omega)]; rfl)) ?_ |  fail_if_success skip)
  rintro ⟨κ, L⟩ ⟨q1, q3, q4⟩
  have q1 : isq e.v ≤ κ.v := q1
  have q3 : nl κ.v ≤ 2 := q3
  have q4 : κ ∈ L := q4
  have hnk : nl κ.v ≠ 0 := fun h => by have := nl_zero_iff.1 h; omega
  rcases Nat.lt_or_ge e.v κ.v with hlt | q2
  · repeat' (refine N.go ?_; first | with_reducible (first | refine N.obl (by decide) ?_ | refine N.obl (flat_wi _ _ _) ?_ | refine N.obl (flat_lim _ _) ?_ | refine N.eq ?_ | refine N.obl rfl ?_ | refine N.obl ⟨by kernel_rfl, by kernel_rfl⟩ ?_ | refine N.alt ?_ | refine N.forkT ?_ | refine N.forkF ?_) | refine N.forkNo (by decide) ?_ | refine N.forkYes (by decide) ?_ | fail)
    refine N.go ?_
    refine N.callAll (mkq0_arM 5 (by rfl) (Try.call76) (qs := [.sl e.v, .sl κ.v]) ⟨.sl (.ch (by rfl) (isNum _ _ _) h1.len h1.cap), .sl (.ar q4), trivial⟩ (wQuoLt e.v κ.v hlt)) fun v ms hR => ?_
    obtain ⟨⟨oa, ol, oc⟩, hr1, rfl, rfl⟩ := hR
    repeat' (refine N.go ?_; first | with_reducible (first | refine N.obl (by decide) ?_ | refine N.obl (flat_wi _ _ _) ?_ | refine N.obl (flat_lim _ _) ?_ | refine N.eq ?_ | refine N.obl rfl ?_ | refine N.obl ⟨by kernel_rfl, by kernel_rfl⟩ ?_ | refine N.alt ?_ | refine N.forkT ?_ | refine N.forkF ?_) | refine N.forkNo (by decide) ?_ | refine N.forkYes (by decide) ?_ | fail)
    refine N.go ?_
    refine N.callAll (mk_arM 5 (by rfl) κ.v Nm.sl (Try.call78) (qs := [.sl κ.v, .pl (.slice none 0 0)]) ⟨.sl (.ar q4), .pl rfl, trivial⟩ (fun _ => rfl) (wPlusX κ.v (by omega))) fun v ms hR => ?_
    obtain ⟨κ2, hκ2, rfl, rfl⟩ := hR
    repeat' (refine N.go ?_; first | with_reducible (first | refine N.obl (by decide) ?_ | refine N.obl (flat_wi _ _ _) ?_ | refine N.obl (flat_lim _ _) ?_ | refine N.eq ?_ | refine N.obl rfl ?_ | refine N.obl ⟨by kernel_rfl, by kernel_rfl⟩ ?_ | refine N.alt ?_ | refine N.forkT ?_ | refine N.forkF ?_) | refine N.forkNo (by decide) ?_ | refine N.forkYes (by decide) ?_ | fail)
    refine N.go ?_
    refine N.callAll (mk_arM 5 (by rfl) (κ2.v / 2) (fun κ => .tuple #[.slice (some ⟨κ.b, κ.o, none⟩) (nl κ.v) κ.c, .bool (lostS κ2.v 1)]) (Try.call77) (qs := [.sl κ2.v, .pl (.int .i64 1)]) ⟨.sl (.ar (List.mem_cons_self ..)), .pl rfl, trivial⟩ (fun _ => rfl) (wRight κ2.v (by omega) (by rw [hκ2]; omega))) fun v ms hR => ?_
    obtain ⟨κ3, hκ3, rfl, rfl⟩ := hR
    have hv3 : κ3.v = κ.v / 2 := by rw [hκ3, hκ2]
    have hg := newton_ge e.v κ.v (by omega)
    rw [Nat.div_eq_of_lt hlt, Nat.add_zero, ← hv3] at hg
    repeat' (refine N.go ?_; first | with_reducible (first | refine N.obl (by decide) ?_ | refine N.obl (flat_wi _ _ _) ?_ | refine N.obl (flat_lim _ _) ?_ | refine N.eq ?_ | refine N.obl rfl ?_ | refine N.obl ⟨by kernel_rfl, by kernel_rfl⟩ ?_ | refine N.alt ?_ | refine N.forkT ?_ | refine N.forkF ?_) | refine N.call (cACmp κ3 κ 5 (by rfl) (List.mem_cons_self ..) (List.mem_cons_of_mem _ (List.mem_cons_of_mem _ q4))) ?_ | refine N.forkNo (by decide) ?_ | refine N.forkYes (by decide) ?_ | fail)
    refine N.go ?_
    refine N.forkNo (decide_eq_false (by unfold cmpN; rw [if_pos (by omega)]; decide)) ?_
    repeat' (refine N.go ?_; first | with_reducible (first | refine N.obl (by decide) ?_ | refine N.obl (flat_wi _ _ _) ?_ | refine N.obl (flat_lim _ _) ?_ | refine N.eq ?_ | refine N.obl rfl ?_ | refine N.obl ⟨by kernel_rfl, by kernel_rfl⟩ ?_ | refine N.alt ?_ | refine N.forkT ?_ | refine N.forkF ?_) | refine N.forkNo (by decide) ?_ | refine N.forkYes (by decide) ?_ | fail)
    refine N.go ?_
    refine N.next (κ3, κ3 :: κ2 :: L) ⟨⟨hg, Nat.le_trans (nl_mono (show κ3.v ≤ κ.v by omega)) q3, List.mem_cons_self ..⟩, by show κ3.v < κ.v; omega⟩ ?_
    repeat (refine N.go ?_; first | exact N.true | with_reducible (first | refine N.obl rfl ?_ | refine N.obl (ChunkLe.refl _) ?_) | refine N.obl (int_i64 (by rw [IntWalk.i64_in _ (by omega)]; rfl)) ?_ |  fail_if_success skip)
  · repeat' (refine N.go ?_; first | with_reducible (first | refine N.obl (by decide) ?_ | refine N.obl (flat_wi _ _ _) ?_ | refine N.obl (flat_lim _ _) ?_ | refine N.eq ?_ | refine N.obl rfl ?_ | refine N.obl ⟨by kernel_rfl, by kernel_rfl⟩ ?_ | refine N.alt ?_ | refine N.forkT ?_ | refine N.forkF ?_) | refine N.forkNo (by decide) ?_ | refine N.forkYes (by decide) ?_ | fail)
    refine N.go ?_
    refine N.callAll (mkq_arM 5 (by rfl) (e.v / κ.v) (Try.call76) (qs := [.sl e.v, .sl κ.v]) ⟨.sl (.ch (by rfl) (isNum _ _ _) h1.len h1.cap), .sl (.ar q4), trivial⟩ (wQuo e.v κ.v (by omega) (by omega) q2)) fun v ms hR => ?_
    obtain ⟨⟨κ1, oa, ol, oc⟩, ⟨hκ1, hr1⟩, rfl, rfl⟩ := hR
    have hκ1 : κ1.v = e.v / κ.v := hκ1
    have n1 : nl κ1.v ≤ 4 := Nat.le_trans (nl_mono (by rw [hκ1]; exact Nat.div_le_self _ _)) hn4
    repeat' (refine N.go ?_; first | with_reducible (first | refine N.obl (by decide) ?_ | refine N.obl (flat_wi _ _ _) ?_ | refine N.obl (flat_lim _ _) ?_ | refine N.eq ?_ | refine N.obl rfl ?_ | refine N.obl ⟨by kernel_rfl, by kernel_rfl⟩ ?_ | refine N.alt ?_ | refine N.forkT ?_ | refine N.forkF ?_) | refine N.forkNo (by decide) ?_ | refine N.forkYes (by decide) ?_ | fail)
    refine N.go ?_
    refine N.callAll (mk_arM 5 (by rfl) (κ.v + κ1.v) Nm.sl (Try.call78) (qs := [.sl κ.v, .sl κ1.v]) ⟨.sl (.ar (List.mem_cons_of_mem _ q4)), .sl (.ar (List.mem_cons_self ..)), trivial⟩ (fun _ => rfl) (wPlus κ.v κ1.v (by omega) (by omega))) fun v ms hR => ?_
    obtain ⟨κ2, hκ2, rfl, rfl⟩ := hR
    have n2 : nl κ2.v ≤ 5 := by
      refine nl_le.2 ?_
      have h2 := nl_le.1 (Nat.le_trans q3 (show 2 ≤ 4 by decide))
      have h3 := nl_le.1 n1
      rw [hκ2, show bw 5 = bw 4 * 4294967296 from bw_succ 4]
      omega
    repeat' (refine N.go ?_; first | with_reducible (first | refine N.obl (by decide) ?_ | refine N.obl (flat_wi _ _ _) ?_ | refine N.obl (flat_lim _ _) ?_ | refine N.eq ?_ | refine N.obl rfl ?_ | refine N.obl ⟨by kernel_rfl, by kernel_rfl⟩ ?_ | refine N.alt ?_ | refine N.forkT ?_ | refine N.forkF ?_) | refine N.forkNo (by decide) ?_ | refine N.forkYes (by decide) ?_ | fail)
    refine N.go ?_
    refine N.callAll (mk_arM 5 (by rfl) (κ2.v / 2) (fun κ => .tuple #[.slice (some ⟨κ.b, κ.o, none⟩) (nl κ.v) κ.c, .bool (lostS κ2.v 1)]) (Try.call77) (qs := [.sl κ2.v, .pl (.int .i64 1)]) ⟨.sl (.ar (List.mem_cons_self ..)), .pl rfl, trivial⟩ (fun _ => rfl) (wRight κ2.v (by omega) (by omega))) fun v ms hR => ?_
    obtain ⟨κ3, hκ3, rfl, rfl⟩ := hR
    have hv3 : κ3.v = (κ.v + e.v / κ.v) / 2 := by rw [hκ3, hκ2, hκ1]
    have hg := newton_ge e.v κ.v (by omega)
    rw [← hv3] at hg
    repeat' (refine N.go ?_; first | with_reducible (first | refine N.obl (by decide) ?_ | refine N.obl (flat_wi _ _ _) ?_ | refine N.obl (flat_lim _ _) ?_ | refine N.eq ?_ | refine N.obl rfl ?_ | refine N.obl ⟨by kernel_rfl, by kernel_rfl⟩ ?_ | refine N.alt ?_ | refine N.forkT ?_ | refine N.forkF ?_) | refine N.call (cACmp κ3 κ 5 (by rfl) (List.mem_cons_self ..) (List.mem_cons_of_mem _ (List.mem_cons_of_mem _ (List.mem_cons_of_mem _ q4)))) ?_ | refine N.forkNo (by decide) ?_ | refine N.forkYes (by decide) ?_ | fail)
    refine N.go ?_
    by_cases hc : κ.v ≤ κ3.v
    · have hv : κ.v = isq e.v := newton_end e.v κ.v (by omega) q1 (by rw [← hv3]; exact hc)
      refine N.forkYes (decide_eq_true (by unfold cmpN; rw [if_neg (by omega)]; split <;> decide)) ?_
      repeat' (refine N.go ?_; first | with_reducible (first | refine N.obl (by decide) ?_ | refine N.obl (flat_wi _ _ _) ?_ | refine N.obl (flat_lim _ _) ?_ | refine N.eq ?_ | refine N.obl rfl ?_ | refine N.obl ⟨by kernel_rfl, by kernel_rfl⟩ ?_ | refine N.alt ?_ | refine N.forkT ?_ | refine N.forkF ?_) | refine N.call (cAMade false κ 5 (by rfl) (List.mem_cons_of_mem _ (List.mem_cons_of_mem _ (List.mem_cons_of_mem _ q4)))) ?_ | exact N.endM κ 5 hv rfl (by rfl) (List.mem_cons_of_mem _ (List.mem_cons_of_mem _ (List.mem_cons_of_mem _ q4))) | refine N.forkNo (by decide) ?_ | refine N.forkYes (by decide) ?_ | fail)
    · refine N.forkNo (decide_eq_false (by unfold cmpN; rw [if_pos (by omega)]; decide)) ?_
      repeat' (refine N.go ?_; first | with_reducible (first | refine N.obl (by decide) ?_ | refine N.obl (flat_wi _ _ _) ?_ | refine N.obl (flat_lim _ _) ?_ | refine N.eq ?_ | refine N.obl rfl ?_ | refine N.obl ⟨by kernel_rfl, by kernel_rfl⟩ ?_ | refine N.alt ?_ | refine N.forkT ?_ | refine N.forkF ?_) | refine N.forkNo (by decide) ?_ | refine N.forkYes (by decide) ?_ | fail)
      refine N.go ?_
      refine N.next (κ3, κ3 :: κ2 :: κ1 :: L) ⟨⟨hg, Nat.le_trans (nl_mono (show κ3.v ≤ κ.v by omega)) q3, List.mem_cons_self ..⟩, by show κ3.v < κ.v; omega⟩ ?_
      repeat (refine N.go ?_; first | exact N.true | with_reducible (first | refine N.obl rfl ?_ | refine N.obl (ChunkLe.refl _) ?_) | refine N.obl (int_i64 (by rw [IntWalk.i64_in _ (by omega)]; rfl)) ?_ |  fail_if_success skip)
end Go.Proofs.Ytchfbblpflcniaa


/-
  Wide numbers as the evaluator has them: a number by its digits, in a value, in memory.
-/
set_option linter.unusedVariables false
set_option linter.unusedSimpArgs false
namespace Go.Proofs.Ytchfbblpflcniaa
open Go Go.RowKit Sx

/-- n digits of 64 bits. -/
def limL (n : Nat) (f : Nat → Nat) : List Value := (List.range n).map fun j => .int .u64 ((f j : Nat) : Int)
theorem lim_is (n : Nat) (f : Nat → Nat) : lim n f = ⟨limL n f⟩ := rfl
theorem limL_len (n : Nat) (f : Nat → Nat) : (limL n f).length = n := by simp [limL]
theorem limL_get {n : Nat} {f : Nat → Nat} {j : Nat} (h : j < n) : (limL n f).getD j undef = .int .u64 ((f j : Nat) : Int) := by simp [limL, List.getD_eq_getElem?_getD, h]
theorem limL_one (n : Nat) (f : Nat → Nat) : (limL n f).all Value.oneCell' = true := by simp [limL, Value.oneCell']
theorem limL_same {n : Nat} {f g : Nat → Nat} (h : ∀ j, j < n → f j = g j) : limL n f = limL n g := List.map_congr_left fun j hj => by rw [h j (by simpa using hj)]
theorem flat_lim (n : Nat) (f : Nat → Nat) : flatB (.agg ⟨limL n f⟩) n = true := by
  simp [flatB, limL_len, limL_one]
theorem plain_lim (n : Nat) (f : Nat → Nat) : plain2 (.agg ⟨limL n f⟩) = true := by
  simp [plain2, limL, plain1]
/-- A wide number. -/
def wiL (neg over : Bool) (v : Nat) : List Value := .bool neg :: .bool over :: limL 16 (dg v)
theorem wi_is (neg over : Bool) (v : Nat) : wi neg over v = ⟨wiL neg over v⟩ := by
  apply Array.toList_inj.1
  simp [wi, wiL, sz, lim_is]
theorem flat_wi (neg over : Bool) (v : Nat) : flatB (.agg ⟨wiL neg over v⟩) 18 = true := by
  simp [flatB, wiL, limL_len, limL_one, Value.oneCell']
theorem plain_wi (neg over : Bool) (v : Nat) : plain2 (.agg ⟨wiL neg over v⟩) = true := by
  simp [plain2, wiL, limL, plain1]

theorem all2_map {F : Nat → Prop} {ρ : Nat → Nat × Nat} : ∀ {vs xs : List Value}, All2 (Den F ρ) vs xs → xs = vs.map (den ρ)
  | [], [], _ => rfl
  | [], _ :: _, h => h.elim
  | _ :: _, [], h => h.elim
  | v :: vs, x :: xs, h => by rw [List.map_cons, all2_map h.2, h.1.self]
theorem call_heap {P : Program} {g : FuncId} {vs : List Value} {h : List (Option Chunk)} {v : Value} (rh : List Nat) (hv : plain3 v = true) (hr : ∀ xs w, (callFunc g xs).run P w = .ok (.enter g xs) w)
    (hc : ∀ (ρ : Nat → Nat × Nat) (w : World), (∀ i ∈ rh, ∀ c, h[i]? = some (some c) → ∀ j, j < c.n → w.cell? ⟨(ρ i).1, (ρ i).2 + j, none⟩ = some (den1 ρ (c.f j))) → Calls P g ⟨vs.map (den ρ)⟩ w fun e w' => e = .returned v ∧ Below w.heap.size w w') : CallOK P g vs h v [] rh :=
  fun h₂ hrh _ X ρ w xs H hx => by
    have hxs : xs = vs.map (den ρ) := all2_map hx
    subst hxs
    refine .inr ⟨hr _ w, (hc ρ w (fun i hi c hic j hj => ?_)).mono ?_⟩
    · obtain ⟨x, hx, hd⟩ := H.cell i c ((hrh i hi).trans hic) j hj
      rw [hx, hd.self]
    · rintro e w' ⟨rfl, hb⟩
      exact ⟨v, rfl, ρ, AgreeOn.refl _ _, H.frame hb, fun r _ => den_plain3 hv r⟩

/-- The digits of a number lie in a known stretch, from f on. -/
def Has (h : List (Option Chunk)) (i f v : Nat) : Prop := ∃ c, h[i]? = some (some c) ∧ f + 16 ≤ c.n ∧ ∀ j, j < 16 → c.f (f + j) = .int .u64 ((dg v j : Nat) : Int)
theorem Has.digs {h : List (Option Chunk)} {i f v : Nat} (hh : Has h i f v) {ρ : Nat → Nat × Nat} {w : World} {rh : List Nat} (hi : i ∈ rh) (hc : ∀ i ∈ rh, ∀ c, h[i]? = some (some c) → ∀ j, j < c.n → w.cell? ⟨(ρ i).1, (ρ i).2 + j, none⟩ = some (den1 ρ (c.f j))) : Digs w (ρ i).1 ((ρ i).2 + f) v := fun j hj => by
  obtain ⟨c, h1, h2, h3⟩ := hh
  rw [Nat.add_assoc, hc i hi c h1 (f + j) (by omega), h3 j hj]
  rfl
theorem has_wi {h : List (Option Chunk)} {i v : Nat} {o neg over : Bool} (hi : h[i]? = some (some ⟨o, 18, [(0, 18, .agg ⟨wiL neg over v⟩)]⟩)) : Has h i 2 v :=
  ⟨_, hi, Nat.le_refl _, fun j hj => by
    show cellOf _ _ = _
    rw [cellOf_cons, if_pos (by omega)]
    simp only [cellIn, wiL, Nat.sub_zero]
    rw [show 2 + j = j + 1 + 1 from by omega]
    simp only [List.getD_cons_succ]
    exact limL_get hj⟩
theorem cParts (i f v : Nat) (h : List (Option Chunk)) (hh : Has h i f v) : CallOK Try.prog 69 [.pointer (some ⟨i, f, some 0⟩)] h (.int .i64 (nd v)) [] [i] :=
  call_heap [i] rfl (Try.call69) fun ρ w hc => (parts_any (ρ i).1 ((ρ i).2 + f) v w (hh.digs (by simp) hc)).mono (by rintro e w' ⟨he, rfl⟩; exact ⟨he, Below.refl _ _⟩)

/-! ### Rows read and written at an index -/
theorem reads_lim {o : Bool} {n p q : Nat} {f : Nat → Nat} (hp : p < n) (hq : q = p) : Reads ⟨o, n, [(0, n, .agg ⟨limL n f⟩)]⟩ q false 1 (.int .u64 ((f p : Nat) : Int)) := by
  subst hq
  refine ⟨hp, rfl, ?_⟩
  show cellOf _ _ = _
  rw [cellOf_cons, if_pos (by omega)]
  exact limL_get hp
theorem reads_wi {o neg over : Bool} {v p q : Nat} (hp : p < 16) (hq : q = 2 + p) : Reads ⟨o, 18, [(0, 18, .agg ⟨wiL neg over v⟩)]⟩ q false 1 (.int .u64 ((dg v p : Nat) : Int)) := by
  subst hq
  refine ⟨by show 2 + p < 18; omega, rfl, ?_⟩
  show cellOf _ _ = _
  rw [cellOf_cons, if_pos (by omega)]
  simp only [cellIn, wiL, Nat.sub_zero]
  rw [show 2 + p = p + 1 + 1 from by omega]
  simp only [List.getD_cons_succ]
  exact limL_get hp
theorem writes_lim {n p q : Nat} {f g : Nat → Nat} {x : Int} (hp : p < n) (hq : q = p) (hx : x = ((g p : Nat) : Int)) (hg : ∀ k, k < n → k ≠ p → g k = f k) : Writes ⟨true, n, [(0, n, .agg ⟨limL n f⟩)]⟩ q 1 (.int .u64 x) ⟨true, n, [(0, n, .agg ⟨limL n g⟩)]⟩ := by
  subst hq
  refine ⟨rfl, hp, rfl, fun k hk => ?_⟩
  have hk : k < n := hk
  have e : ∀ f : Nat → Nat, (⟨true, n, [(0, n, .agg ⟨limL n f⟩)]⟩ : Chunk).f k = .int .u64 ((f k : Nat) : Int) := fun f => by
    show cellOf _ _ = _
    rw [cellOf_cons, if_pos (by omega)]
    exact limL_get hk
  rw [e, e]
  by_cases h : k = q
  · subst h; rw [if_pos (by omega), hx]; rfl
  · rw [if_neg (by omega), hg k hk h]

theorem cMul64 (x y : Nat) (h : List (Option Chunk)) (hx : x < 18446744073709551616) (hy : y < 18446744073709551616) : CallOK Try.prog 70 [.int .u64 x, .int .u64 y] h (.tuple #[.int .u64 ((x * y / 18446744073709551616 : Nat) : Int), .int .u64 ((x * y % 18446744073709551616 : Nat) : Int)]) [] [] :=
  call_pure rfl rfl (Try.call70 _) fun w => (Try.bits_Mul64 x y hx hy w).mono (by rintro e w' ⟨he, rfl⟩; exact ⟨he, Below.refl _ _⟩)
theorem cAdd64 (x y c : Int) (h : List (Option Chunk)) (hx : 0 ≤ x) (hx' : x < 18446744073709551616) (hy : 0 ≤ y) (hy' : y < 18446744073709551616) (hc0 : 0 ≤ c) (hc : c ≤ 1) : CallOK Try.prog 71 [.int .u64 x, .int .u64 y, .int .u64 c] h (.tuple #[.int .u64 ((x + y + c) % 18446744073709551616), .int .u64 ((x + y + c) / 18446744073709551616)]) [] [] :=
  call_ext rfl rfl fun w => Ytchfbblpflcniaa.add64 x y c hx hx' hy hy' hc0 hc w
end Go.Proofs.Ytchfbblpflcniaa


/-
  The walks of Of, made: numbers with their signs.
-/
set_option linter.unusedVariables false
namespace Go.Proofs.Ytchfbblpflcniaa
open Go.RowKit

theorem built_of (x : Int) : Try.prog.built 50 [(0, .int .u64 x)] = some #[.int .u64 x, .int .u64 0, .int .u64 0, .int .u64 0, .int .u64 0, .int .u64 0, .int .u64 0, .int .u64 0, .int .u64 0, .int .u64 0, .int .u64 0, .int .u64 0, .int .u64 0, .int .u64 0, .int .u64 0, .int .u64 0] := by kernel_rfl
theorem built_sz (v : Nat) (h : v < 18446744073709551616) : Try.prog.built 50 [(0, .int .u64 v)] = some (sz v) := by
  rw [sz_small v h]; exact built_of _
theorem built_0 : Try.prog.built 50 [] = some (sz 0) := by
  rw [sz_zero]; kernel_rfl
theorem built_wi (neg : Bool) (v : Nat) : Try.prog.built 52 [(0, .bool neg), (2, .agg (sz v))] = some (wi neg false v) := by
  rw [sz_lit, wi_lit]; kernel_rfl

/-- A whole number as a number. -/
def zi (z : Int) : Array Value := wi (decide (z < 0)) false z.natAbs
@[simp] theorem zi_size (z : Int) : (zi z).size = 18 := wi_size _ _ _

set_option maxRecDepth 100000 in
theorem wof_neg (v : Nat) (h : 0 < v ∧ v ≤ 9223372036854775808) (w : World) : Calls Try.prog 40 #[.int .i64 (-(v : Int))] w fun e w' => e = .returned (.agg (wi true false v)) ∧ Below w.heap.size w w' := by
  have hB : Below w.heap.size w w := Below.refl _ _
  have hr := IsRow.new w (wi false false 0) 52
  rw [wi_zero] at hr
  obtain ⟨h0, h1⟩ := h
  have hwr : IntKind.u64.wrap (-IntKind.u64.wrap (-(v : Int))) = v := by
    show ((-((-(v : Int)) % 18446744073709551616)) % 18446744073709551616 : Int) = v
    omega
  have hb1 : Try.prog.built 50 [(0, .int .u64 (IntKind.u64.wrap (-IntKind.u64.wrap (-(v : Int)))))] = some (sz v) := by rw [hwr]; exact built_sz v (by omega)
  clear hwr
  have hn : -(v : Int) < 0 := by omega
  have hb2 := built_wi true v
  go_enter Try.func40, Try.ntmps40
  go_wp2_with (first | (refine isBuildL (ty := 50) rfl ?_; refine wpList_build1 ?_ 50 0 _ rfl (.int .u64 (IntKind.u64.wrap (-IntKind.u64.wrap (-(v : Int))))) rfl (sz v) (hb1) ?_; (focus rfl)) | (refine isBuildL (ty := 52) rfl ?_; refine wpList_build2 ?_ 52 0 2 _ _ rfl (.bool true) (.agg (sz v)) rfl rfl (wi true false v) (hb2) ?_; (focus rfl)) | (refine isStoreL (ty := 52) rfl ?_; refine wpList_store_row ?_ 52 _ _ rfl (w.heap.size) (wi true false v) rfl rfl _ (_) (hr) (by rw [wi_size]; kernel_rfl) (by simp) (wi_one _ _ _) ?_; (focus rfl)) | fail)
  exact bodyPost_ret (results_cell_row Try.results40 _ _ w.heap.size _ _ _ _ rfl (hr.row _) Try.underlying52 rfl (by rw [wi_size]; kernel_rfl)) rfl ⟨rfl, below_setRow (hB.alloc (Nat.le_refl _) _) (Nat.le_refl _) _⟩

set_option maxRecDepth 100000 in
theorem wof_pos (v : Nat) (h : v < 9223372036854775808) (w : World) : Calls Try.prog 40 #[.int .i64 ((v : Int))] w fun e w' => e = .returned (.agg (wi false false v)) ∧ Below w.heap.size w w' := by
  have hB : Below w.heap.size w w := Below.refl _ _
  have hr := IsRow.new w (wi false false 0) 52
  rw [wi_zero] at hr
  have hwr : IntKind.u64.wrap (v : Int) = v := by
    show ((v : Int) % 18446744073709551616 : Int) = v
    omega
  have hb1 : Try.prog.built 50 [(0, .int .u64 (v : Int))] = some (sz v) := built_sz v (by omega)
  have hn : ¬ (v : Int) < 0 := by omega
  have hb2 := built_wi false v
  go_enter Try.func40, Try.ntmps40
  go_wp2_with (first | (refine isBuildL (ty := 50) rfl ?_; refine wpList_build1 ?_ 50 0 _ rfl (.int .u64 (v : Int)) rfl (sz v) (hb1) ?_; (focus rfl)) | (refine isBuildL (ty := 52) rfl ?_; refine wpList_build2 ?_ 52 0 2 _ _ rfl (.bool false) (.agg (sz v)) rfl rfl (wi false false v) (hb2) ?_; (focus rfl)) | (refine isStoreL (ty := 52) rfl ?_; refine wpList_store_row ?_ 52 _ _ rfl (w.heap.size) (wi false false v) rfl rfl _ (_) (hr) (by rw [wi_size]; kernel_rfl) (by simp) (wi_one _ _ _) ?_; (focus rfl)) | fail)
  exact bodyPost_ret (results_cell_row Try.results40 _ _ w.heap.size _ _ _ _ rfl (hr.row _) Try.underlying52 rfl (by rw [wi_size]; kernel_rfl)) rfl ⟨rfl, below_setRow (hB.alloc (Nat.le_refl _) _) (Nat.le_refl _) _⟩

theorem wof_any (n : Int) (h0 : -9223372036854775808 ≤ n) (h1 : n < 9223372036854775808) (w : World) : Calls Try.prog 40 #[.int .i64 n] w fun e w' => e = .returned (.agg (zi n)) ∧ Below w.heap.size w w' := by
  by_cases hn : n < 0
  · have := wof_neg n.natAbs (by omega) w
    rw [show -(n.natAbs : Int) = n from by omega] at this
    unfold zi; rw [decide_eq_true hn]; exact this
  · have := wof_pos n.natAbs (by omega) w
    rw [show (n.natAbs : Int) = n from by omega] at this
    unfold zi; rw [decide_eq_false hn]; exact this

set_option maxHeartbeats 1000000 in
set_option maxRecDepth 100000 in
theorem made_any (neg : Bool) (v : Nat) (hv : v < Top) (w : World) : Calls Try.prog 67 #[.bool neg, .agg (sz v)] w fun e w' => e = .returned (.agg (wi (neg && decide (v ≠ 0)) false v)) ∧ Below w.heap.size w w' := by
  have hv16 : v < Bs ^ 16 := Nat.lt_trans hv top_lt
  have hbl : bl v ≤ 1023 := bl_small v TopBits hv16 hv
  have hB : Below w.heap.size w w := Below.refl _ _
  have hr := (IsRow.new w (sz v) 50).alloc (.cells (wi false false 0) 52)
  have hr2 := IsRow.new (w.alloc (.cells (sz v) 50)) (wi false false 0) 52
  have hdg := Digs.of_sz hr
  rw [wi_zero] at hdg hr hr2
  have HD := Lib.hid hdg
  clear hdg
  have hB2 : Below w.heap.size w ((w.alloc (.cells (sz v) 50)).alloc (.cells #[.bool false, .bool false, .int .u64 0, .int .u64 0, .int .u64 0, .int .u64 0, .int .u64 0, .int .u64 0, .int .u64 0, .int .u64 0, .int .u64 0, .int .u64 0, .int .u64 0, .int .u64 0, .int .u64 0, .int .u64 0, .int .u64 0, .int .u64 0] 52)) := by
    refine Below.alloc (Below.alloc hB ?_ _) ?_ _
    · exact Nat.le_refl _
    · simp
  go_enter Try.func67, Try.ntmps67
  go_wp2_with fail
  refine (bits_any w.heap.size 0 v _ HD.out).mono ?_
  rintro e w' ⟨rfl, rfl⟩
  clear HD
  cases neg
  · go_wp2_with fail
    rw [show (w.alloc (.cells (sz v) 50)).heap.size = w.heap.size + 1 from by simp] at hr2
    generalize hW : ((w.alloc (.cells (sz v) 50)).alloc (.cells #[.bool false, .bool false, .int .u64 0, .int .u64 0, .int .u64 0, .int .u64 0, .int .u64 0, .int .u64 0, .int .u64 0, .int .u64 0, .int .u64 0, .int .u64 0, .int .u64 0, .int .u64 0, .int .u64 0, .int .u64 0, .int .u64 0, .int .u64 0] 52)) = W at hr hr2 hB2 ⊢
    clear hW
    have heq := equal_sz v 0 hv16 (bsp_pos 16) W.drew
    clear heq
    refine wp_region_still_tail 8 (by kernel_rfl) (by kernel_rfl) ?_
    simp only [List.take_succ_cons, List.take_zero, List.drop_succ_cons, List.drop_zero]
    repeat (first | (refine isLoadS (ty := 50) rfl ?_; refine wpStill_load_row ?_ 50 _ rfl (w.heap.size) rfl _ (sz v) _ _ (hr.drew) Try.underlying50 rfl (by rw [sz_size]; kernel_rfl) ?_; (focus (first | rfl | (go_simp; done)))) | (refine isBuildS (ty := 50) rfl ?_; refine wpStill_build0 ?_ 50 rfl (sz 0) (built_0) ?_; (focus (first | rfl | (go_simp; done)))) | (refine isBuildS (ty := 52) rfl ?_; refine wpStill_build2 ?_ 52 0 2 _ _ rfl (.bool false) (.agg (sz v)) rfl rfl (wi false false v) (built_wi _ _) ?_; (focus (first | rfl | (go_simp; done)))) | still_step)
    refine wpStill_nil ?_
    change wpList _ _ _ _ _ W.drew
    go_wp2_with (refine isStoreL (ty := 52) rfl ?_; refine wpList_store_row ?_ 52 _ _ rfl (w.heap.size + 1) (wi false false v) rfl rfl _ (_) (hr2.drew) (by rw [wi_size]; kernel_rfl) (by simp) (wi_one _ _ _) ?_; (focus rfl))
    exact bodyPost_ret (results_cell_row Try.results67 _ _ (w.heap.size + 1) _ _ _ _ rfl (hr2.drew.row _) Try.underlying52 rfl (by rw [wi_size]; kernel_rfl)) rfl ⟨by rw [show (false && decide (v ≠ 0)) = false from by simp], below_setRow hB2.drew (by omega) _⟩
  · by_cases hz : v = 0
    · have HZ := Lib.hid hz
      clear hz
      go_wp2_with fail
      rw [show (w.alloc (.cells (sz v) 50)).heap.size = w.heap.size + 1 from by simp] at hr2
      generalize hW : ((w.alloc (.cells (sz v) 50)).alloc (.cells #[.bool false, .bool false, .int .u64 0, .int .u64 0, .int .u64 0, .int .u64 0, .int .u64 0, .int .u64 0, .int .u64 0, .int .u64 0, .int .u64 0, .int .u64 0, .int .u64 0, .int .u64 0, .int .u64 0, .int .u64 0, .int .u64 0, .int .u64 0] 52)) = W at hr hr2 hB2 ⊢
      clear hW
      have heq := equal_sz v 0 hv16 (bsp_pos 16) W.drew
      rw [decide_eq_true HZ.out] at heq
      refine wp_region_still_tail 8 (by kernel_rfl) (by kernel_rfl) ?_
      simp only [List.take_succ_cons, List.take_zero, List.drop_succ_cons, List.drop_zero]
      repeat (first | (refine isLoadS (ty := 50) rfl ?_; refine wpStill_load_row ?_ 50 _ rfl (w.heap.size) rfl _ (sz v) _ _ (hr.drew) Try.underlying50 rfl (by rw [sz_size]; kernel_rfl) ?_; (focus (first | rfl | (go_simp; done)))) | (refine isBuildS (ty := 50) rfl ?_; refine wpStill_build0 ?_ 50 rfl (sz 0) (built_0) ?_; (focus (first | rfl | (go_simp; done)))) | (refine isBuildS (ty := 52) rfl ?_; refine wpStill_build2 ?_ 52 0 2 _ _ rfl (.bool false) (.agg (sz v)) rfl rfl (wi false false v) (built_wi _ _) ?_; (focus (first | rfl | (go_simp; done)))) | still_step)
      refine wpStill_nil ?_
      change wpList _ _ _ _ _ W.drew
      go_wp2_with (refine isStoreL (ty := 52) rfl ?_; refine wpList_store_row ?_ 52 _ _ rfl (w.heap.size + 1) (wi false false v) rfl rfl _ (_) (hr2.drew) (by rw [wi_size]; kernel_rfl) (by simp) (wi_one _ _ _) ?_; (focus rfl))
      exact bodyPost_ret (results_cell_row Try.results67 _ _ (w.heap.size + 1) _ _ _ _ rfl (hr2.drew.row _) Try.underlying52 rfl (by rw [wi_size]; kernel_rfl)) rfl ⟨by rw [show (true && decide (v ≠ 0)) = false from by simp [HZ.out]], below_setRow hB2.drew (by omega) _⟩
    · have HZ := Lib.hid hz
      clear hz
      go_wp2_with fail
      rw [show (w.alloc (.cells (sz v) 50)).heap.size = w.heap.size + 1 from by simp] at hr2
      generalize hW : ((w.alloc (.cells (sz v) 50)).alloc (.cells #[.bool false, .bool false, .int .u64 0, .int .u64 0, .int .u64 0, .int .u64 0, .int .u64 0, .int .u64 0, .int .u64 0, .int .u64 0, .int .u64 0, .int .u64 0, .int .u64 0, .int .u64 0, .int .u64 0, .int .u64 0, .int .u64 0, .int .u64 0] 52)) = W at hr hr2 hB2 ⊢
      clear hW
      have heq := equal_sz v 0 hv16 (bsp_pos 16) W.drew
      rw [decide_eq_false HZ.out] at heq
      refine wp_region_still_tail 8 (by kernel_rfl) (by kernel_rfl) ?_
      simp only [List.take_succ_cons, List.take_zero, List.drop_succ_cons, List.drop_zero]
      repeat (first | (refine isLoadS (ty := 50) rfl ?_; refine wpStill_load_row ?_ 50 _ rfl (w.heap.size) rfl _ (sz v) _ _ (hr.drew) Try.underlying50 rfl (by rw [sz_size]; kernel_rfl) ?_; (focus (first | rfl | (go_simp; done)))) | (refine isBuildS (ty := 50) rfl ?_; refine wpStill_build0 ?_ 50 rfl (sz 0) (built_0) ?_; (focus (first | rfl | (go_simp; done)))) | (refine isBuildS (ty := 52) rfl ?_; refine wpStill_build2 ?_ 52 0 2 _ _ rfl (.bool true) (.agg (sz v)) rfl rfl (wi true false v) (built_wi _ _) ?_; (focus (first | rfl | (go_simp; done)))) | still_step)
      refine wpStill_nil ?_
      change wpList _ _ _ _ _ W.drew
      go_wp2_with (refine isStoreL (ty := 52) rfl ?_; refine wpList_store_row ?_ 52 _ _ rfl (w.heap.size + 1) (wi true false v) rfl rfl _ (_) (hr2.drew) (by rw [wi_size]; kernel_rfl) (by simp) (wi_one _ _ _) ?_; (focus rfl))
      exact bodyPost_ret (results_cell_row Try.results67 _ _ (w.heap.size + 1) _ _ _ _ rfl (hr2.drew.row _) Try.underlying52 rfl (by rw [wi_size]; kernel_rfl)) rfl ⟨by rw [show (true && decide (v ≠ 0)) = true from by simp [HZ.out]], below_setRow hB2.drew (by omega) _⟩
end Go.Proofs.Ytchfbblpflcniaa


/-
  Digits behind a shift, and 'or' of parts that do not meet.
-/
set_option linter.unusedVariables false
namespace Go.Proofs.Ytchfbblpflcniaa

theorem gen_shl (v p q M : Nat) (hp : 0 < p) (hq : 0 < q) (hM : 0 < M) : v * p / (M * (p * q)) = v / (M * (p * q)) * p + v / M % (p * q) / q := by
  have h1 : v / (M * (p * q)) = v / M / (p * q) := by rw [Nat.div_div_eq_div_mul]
  have h2 := Nat.div_add_mod v M
  have h3 := Nat.div_add_mod (v / M) (p * q)
  have h4 : v * p / (M * (p * q)) = v / M / q := by
    rw [show M * (p * q) = M * q * p from by rw [Nat.mul_comm p q, Nat.mul_assoc], Nat.mul_div_mul_right _ _ hp, Nat.div_div_eq_div_mul]
  rw [h4, h1]
  generalize v / M = x at *
  have h5 : x = x / (p * q) * (p * q) + x % (p * q) := by rw [Nat.mul_comm]; exact h3.symm
  conv => lhs; rw [h5]
  rw [show x / (p * q) * (p * q) = q * (x / (p * q) * p) from by rw [← Nat.mul_assoc, Nat.mul_comm q, Nat.mul_assoc]]
  rw [Nat.mul_add_div hq]

theorem pow_split (k : Nat) (hk : k < 64) : Bs = 2 ^ k * 2 ^ (64 - k) := by rw [← Nat.pow_add, show k + (64 - k) = 64 from by omega]

/-- The shift by less than a digit, up. -/
theorem shl_zero (v k : Nat) : dg (v * 2 ^ k) 0 = dg v 0 * 2 ^ k % 18446744073709551616 := by
  unfold dg
  rw [Nat.pow_zero, Nat.div_one, Nat.div_one]
  show _ = v % Bs * 2 ^ k % Bs
  rw [Nat.mod_mul_mod]
theorem shl_step (v k n : Nat) (hk : k < 64) (hn : 0 < n) : dg (v * 2 ^ k) n = dg v n * 2 ^ k % 18446744073709551616 + dg v (n - 1) / 2 ^ (64 - k) := by
  obtain ⟨m, rfl⟩ : ∃ m, n = m + 1 := ⟨n - 1, by omega⟩
  have hM := bsp_pos m
  have hp : 0 < 2 ^ k := Nat.pow_pos (by decide)
  have hq : 0 < 2 ^ (64 - k) := Nat.pow_pos (by decide)
  have g := gen_shl v (2 ^ k) (2 ^ (64 - k)) (Bs ^ m) hp hq hM
  have e := pow_split k hk
  have hd0 := Nat.mod_lt (v / Bs ^ m) bs_pos
  rw [show m + 1 - 1 = m from rfl]
  unfold dg
  show v * 2 ^ k / Bs ^ (m + 1) % Bs = v / Bs ^ (m + 1) % Bs * 2 ^ k % Bs + v / Bs ^ m % Bs / 2 ^ (64 - k)
  rw [Nat.pow_succ]
  generalize 2 ^ k = p at *
  generalize 2 ^ (64 - k) = q at *
  rw [← e] at g
  rw [g]
  generalize v / (Bs ^ m * Bs) = x at *
  generalize v / Bs ^ m % Bs = d at *
  generalize Bs = B at *
  subst e
  have h1 : d / q < p := by rw [Nat.div_lt_iff_lt_mul hq]; exact hd0
  have h2 : x % (p * q) * p % (p * q) = x % q * p := by
    rw [Nat.mod_mul_mod, Nat.mul_comm x p, Nat.mul_mod_mul_left, Nat.mul_comm]
  have h3 := Nat.div_add_mod x q
  rw [h2]
  have h4 : x * p + d / q = p * q * (x / q) + (x % q * p + d / q) := by
    have : x * p = p * q * (x / q) + x % q * p := by
      conv => lhs; rw [← h3]
      rw [Nat.add_mul, Nat.mul_comm (q * (x / q)) p, ← Nat.mul_assoc]
    omega
  rw [h4, Nat.mul_add_mod, Nat.mod_eq_of_lt]
  have h5 := Nat.mod_lt x hq
  have h6 : (x % q + 1) * p ≤ q * p := Nat.mul_le_mul_right _ h5
  rw [Nat.add_mul] at h6
  rw [Nat.mul_comm p q]
  omega

theorem u64_shl (x k : Nat) : IntKind.u64.wrap ((x : Int) * 2 ^ k) = ((x * 2 ^ k % 18446744073709551616 : Nat) : Int) := by
  rw [IntKind.wrap_u64]
  generalize h : x * 2 ^ k = y
  have : (x : Int) * 2 ^ k = (y : Nat) := by rw [← h]; exact_mod_cast rfl
  rw [this]; omega
theorem int_shr (x k : Nat) : (x : Int) / 2 ^ k = ((x / 2 ^ k : Nat) : Int) := by exact_mod_cast rfl
theorem or_nat (a b : Nat) (ha : a < 18446744073709551616) (hb : b < 18446744073709551616) : bits .or .u64 (a : Int) (b : Int) = ((a ||| b : Nat) : Int) :=
  (bits_nat .u64 64 (by decide) (fun n h0 h1 => by rw [IntKind.wrap_u64]; omega) a b ha hb).2
theorem or_up (x y k : Nat) (hk0 : 0 < k) (hk : k < 64) (hy : y < 18446744073709551616) :
    bits .or .u64 (IntKind.u64.wrap ((x : Int) * 2 ^ k)) ((y : Int) / 2 ^ (64 - k)) = ((x * 2 ^ k % 18446744073709551616 + y / 2 ^ (64 - k) : Nat) : Int) := by
  have h1 := Nat.mod_lt (x * 2 ^ k) bs_pos
  have h2 : y / 2 ^ (64 - k) < 2 ^ k := by
    rw [Nat.div_lt_iff_lt_mul (Nat.pow_pos (by decide)), ← pow_split k hk]; exact hy
  have h3 : 2 ^ k ≤ 2 ^ 63 := Nat.pow_le_pow_right (by decide) (by omega)
  rw [u64_shl, int_shr, or_nat _ _ h1 (by omega)]
  have h4 : x * 2 ^ k % 18446744073709551616 = 2 ^ k * (x % 2 ^ (64 - k)) := by
    show x * 2 ^ k % Bs = _
    rw [pow_split k hk, Nat.mul_comm x, Nat.mul_mod_mul_left]
  rw [h4, Nat.two_pow_add_eq_or_of_lt h2]
theorem or_down (x y k : Nat) (hk0 : 0 < k) (hk : k < 64) (hx : x < 18446744073709551616) :
    bits .or .u64 ((x : Int) / 2 ^ k) (IntKind.u64.wrap ((y : Int) * 2 ^ (64 - k))) = ((x / 2 ^ k + y * 2 ^ (64 - k) % 18446744073709551616 : Nat) : Int) := by
  have h1 := Nat.mod_lt (y * 2 ^ (64 - k)) bs_pos
  have e : Bs = 2 ^ (64 - k) * 2 ^ k := by rw [Nat.mul_comm]; exact pow_split k hk
  have h2 : x / 2 ^ k < 2 ^ (64 - k) := by
    rw [Nat.div_lt_iff_lt_mul (Nat.pow_pos (by decide)), ← e]; exact hx
  have h3 : 2 ^ (64 - k) ≤ 2 ^ 63 := Nat.pow_le_pow_right (by decide) (by omega)
  rw [u64_shl, int_shr, or_nat _ _ (by omega) h1]
  have h4 : y * 2 ^ (64 - k) % 18446744073709551616 = 2 ^ (64 - k) * (y % 2 ^ k) := by
    show y * 2 ^ (64 - k) % Bs = _
    rw [e, Nat.mul_comm y, Nat.mul_mod_mul_left]
  rw [h4, Nat.or_comm, ← Nat.two_pow_add_eq_or_of_lt h2, Nat.add_comm]
end Go.Proofs.Ytchfbblpflcniaa


/-
  The walks of up, down: a number shifted by less than a digit.
-/
set_option linter.unusedVariables false
namespace Go.Proofs.Ytchfbblpflcniaa
open Go.RowKit

theorem lim_set2 (m : Nat) (f g : Nat → Nat) (i : Nat) (u : Value) (x : Int) (hi : i < m) (hv : x = ((g i : Nat) : Int)) (h : ∀ j, j < m → j ≠ i → f j = g j) : ((lim m f).setIfInBounds i u).setIfInBounds i (.int .u64 x) = lim m g := by
  rw [← lim_set m f g i x hi hv h]
  apply Array.ext_getElem?
  intro j
  simp only [Array.getElem?_setIfInBounds, Array.size_setIfInBounds]
  split <;> simp_all

/-- The digits of what is shifted up, as far as they are reckoned (from the top). -/
def upTo (v k n : Nat) : Nat → Nat := fun j => if n ≤ j then dg (v * 2 ^ k) j else 0
theorem upTo_step (v k n j : Nat) (h : j ≠ n) : upTo v k (n + 1) j = upTo v k n j := by
  unfold upTo; by_cases hj : n ≤ j <;> simp [hj, show n + 1 ≤ j ↔ n < j from Iff.rfl] <;> omega
theorem upTo_at (v k n : Nat) : upTo v k n n = dg (v * 2 ^ k) n := by unfold upTo; rw [if_pos (Nat.le_refl _)]

set_option maxRecDepth 100000 in
theorem up_any (g o v k : Nat) (hk : k < 64) (w : World) (hd : Digs w g o v) :
    Calls Try.prog 61 #[.pointer (some ⟨g, o, none⟩), .int .i64 k] w fun e w' => e = .returned (.agg (sz (v * 2 ^ k))) ∧ Below w.heap.size w w' := by
  have HD := Lib.hid hd
  clear hd
  have q0 : (k : Int) / 64 = 0 := by omega
  have q1 : (k : Int).tdiv 64 = 0 := Int.tdiv_eq_zero_of_lt (by omega) (by omega)
  have q2 : (k : Int).tmod 64 = k := Int.tmod_eq_of_lt (by omega) (by omega)
  have q3 : (k : Int) % 64 = k := by omega
  go_enter Try.func61, Try.ntmps61
  go_wp2
  go_loopw [6] (fun i wr => ∃ n : Nat, n ≤ 16 ∧ i = .int .i64 (n - 1) ∧ IsRow wr (w.heap.size + 1) 50 (lim 16 (upTo v k n)) ∧ IsRow wr w.heap.size 50 (sz 0) ∧ Below w.heap.size w wr) (fun i _ => (intOf i + 1).toNat)
  case atStart =>
    refine ⟨16, by omega, rfl, ?_, ?_, by repeat (first | with_reducible exact Below.refl _ _ | with_reducible refine Below.alloc ?_ (by first | (simp; done) | (simp; omega) | omega) _)⟩
    · rw [lim_same 16 (upTo v k 16) (dg 0) (fun j hj => by rw [dg_zero]; unfold upTo; rw [if_neg (by omega)])]
      rw [← sz_zero]
      have := IsRow.new (w.alloc (.cells (sz 0) 50)) (sz 0) 50
      rw [show (w.alloc (.cells (sz 0) 50)).heap.size = w.heap.size + 1 from by simp] at this
      exact this
    · rw [← sz_zero]
      exact (IsRow.new _ _ _).alloc _
  case round =>
    obtain ⟨n, hn, rfl, hrow, hres, hbel⟩ := hrel
    match n, hn with
    | 0, hn =>
      rw [lim_same 16 (upTo v k 0) (dg (v * 2 ^ k)) (fun j hj => by unfold upTo; rw [if_pos (by omega)])] at hrow
      have hrow' : IsRow wr (w.heap.size + 1) 50 (sz (v * 2 ^ k)) := hrow
      clear hrow
      go_wp2_with (first | (refine isLoadL (ty := 50) rfl ?_; refine wpList_load_row ?_ 50 _ rfl (w.heap.size + 1) rfl _ (sz (v * 2 ^ k)) _ _ (hrow') Try.underlying50 rfl (by rw [sz_size]; kernel_rfl) ?_; (focus rfl)) | (refine isStoreL (ty := 50) rfl ?_; refine wpList_store_row ?_ 50 _ _ rfl (w.heap.size) (sz (v * 2 ^ k)) rfl rfl _ (_) (hres) (by rw [sz_size]; kernel_rfl) (by simp) (sz_one _) ?_; (focus rfl)) | fail)
      exact bodyPost_ret (results_cell_row Try.results61 _ _ w.heap.size _ _ _ _ rfl (hres.row _) Try.underlying50 rfl (by rw [sz_size]; kernel_rfl)) rfl ⟨rfl, below_setRow hbel (Nat.le_refl _) _⟩
    | n + 1, hn =>
      have e1 : ((n + 1 : Nat) : Int) - 1 = n := by omega
      rw [e1]
      have c1 : wr.cell? ⟨g, o + n, none⟩ = some (.int .u64 ((dg v n : Nat) : Int)) := (hbel.cell (p := ⟨g, o + n, none⟩) HD.out.lt).trans (HD.out n (by omega))
      have c3 := hrow.cell (lim_get 16 (upTo v k (n + 1)) n (by omega))
      have f3 := hrow.frozen n
      have hz := hbel.size
      have hrow1 := hrow.set n (.int .u64 (IntKind.u64.wrap (((dg v n : Nat) : Int) * 2 ^ k)))
      have hres1 : IsRow (wr.setCell ⟨w.heap.size + 1, n, none⟩ (.int .u64 (IntKind.u64.wrap (((dg v n : Nat) : Int) * 2 ^ k)))) w.heap.size 50 (sz 0) := hres.setOther _ _ (by simp)
      have hbel1 : Below w.heap.size w (wr.setCell ⟨w.heap.size + 1, n, none⟩ (.int .u64 (IntKind.u64.wrap (((dg v n : Nat) : Int) * 2 ^ k)))) := hbel.setCell (by simp) _
      by_cases hk0 : 0 < k ∧ 0 < n
      · obtain ⟨hk0, hn0⟩ := hk0
        go_wp2_with fail
        clear c1 c3 f3 hrow hres hbel
        generalize wr.setCell ⟨w.heap.size + 1, n, none⟩ (.int .u64 (IntKind.u64.wrap (((dg v n : Nat) : Int) * 2 ^ k))) = W at *
        have c2 : W.cell? ⟨g, o + (n - 1), none⟩ = some (.int .u64 ((dg v (n - 1) : Nat) : Int)) := (hbel1.cell (p := ⟨g, o + (n - 1), none⟩) HD.out.lt).trans (HD.out (n - 1) (by omega))
        have c3 : W.cell? ⟨w.heap.size + 1, n, none⟩ = some (.int .u64 (IntKind.u64.wrap (((dg v n : Nat) : Int) * 2 ^ k))) := hrow1.cell (by rw [Array.getElem?_setIfInBounds]; simp; omega)
        have f3 := hrow1.frozen n
        go_region
        go_wp2_with fail
        go_roundw
        case rel =>
          refine ⟨n, by omega, by go_num, ?_, hres1.setOther _ _ (by simp), (hbel1.setCell (by simp) _).drew⟩
          have h2 := hrow1.set n (.int .u64 (bits .or .u64 (IntKind.u64.wrap (((dg v n : Nat) : Int) * 2 ^ k)) (((dg v (n - 1) : Nat) : Int) / 2 ^ (64 - k))))
          rw [lim_set2 16 (upTo v k (n + 1)) (upTo v k n) n _ _ (by omega) (by rw [or_up _ _ _ hk0 hk (dg_lt _ _), upTo_at, shl_step v k n hk hn0]) (fun j _ hj => upTo_step v k n j hj)] at h2
          exact h2
        case measure => simp [intOf]
      · have hval : IntKind.u64.wrap (((dg v n : Nat) : Int) * 2 ^ k) = ((upTo v k n n : Nat) : Int) := by
          rw [u64_shl, upTo_at]
          by_cases hn0 : n = 0
          · subst hn0; rw [shl_zero]
          · obtain rfl : k = 0 := by omega
            rw [Nat.pow_zero, Nat.mul_one, Nat.mul_one, Nat.mod_eq_of_lt (dg_lt v n)]
        rw [lim_set 16 (upTo v k (n + 1)) (upTo v k n) n _ (by omega) hval (fun j _ hj => upTo_step v k n j hj)] at hrow1
        have HV := Lib.hid hval
        clear hval
        by_cases hk1 : 0 < k
        · have hn0 : ¬ 0 < n := fun h => hk0 ⟨hk1, h⟩
          have hn1 : decide ((n : Int) > 0) = false := decide_eq_false (by omega)
          clear hk0
          go_wp2_with fail
          go_roundw
          case rel => exact ⟨n, by omega, by go_num, hrow1, hres1, hbel1⟩
          case measure => simp [intOf]
        · clear hk0
          have hk2 : decide ((k : Int) > 0) = false := decide_eq_false (by omega)
          go_wp2_with fail
          go_roundw
          case rel => exact ⟨n, by omega, by go_num, hrow1, hres1, hbel1⟩
          case measure => simp [intOf]
end Go.Proofs.Ytchfbblpflcniaa


/-
  The walk of down: a number shifted down by less than a digit.
-/
set_option linter.unusedVariables false
namespace Go.Proofs.Ytchfbblpflcniaa
open Go.RowKit

/-- The digits of what is shifted down, as far as they are reckoned. -/
def downTo (v k n : Nat) : Nat → Nat := fun j => if j < n then dg (v / 2 ^ k) j else 0
theorem downTo_step (v k n j : Nat) (h : j ≠ n) : downTo v k n j = downTo v k (n + 1) j := by
  unfold downTo; by_cases hj : j < n <;> simp [hj] <;> omega
theorem downTo_at (v k n : Nat) : downTo v k (n + 1) n = dg (v / 2 ^ k) n := by unfold downTo; rw [if_pos (by omega)]

end Go.Proofs.Ytchfbblpflcniaa
