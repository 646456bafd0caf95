import Derived.Test.YtdnkeeedcnjofaaGreatDoorRows
import Derived.Laws.BytesArg
import Derived.Laws.OwnMore
import Derived.Test.YtdnkeeedcnjofaaGreatDoorM4

/-
  The walks of the document's numbers: plus, minus, times at any length.
-/
set_option linter.unusedVariables false
set_option linter.unusedSimpArgs false
namespace Go.Proofs.YtdnkeeedcnjofaaGreatDoor
open Go Go.RowKit Sx

theorem lm_mix (p q k j : Nat) : lm (p % bw k + q / bw k * bw k) j = if j < k then lm p j else lm q j := by
  by_cases h : j < k
  · rw [if_pos h, lm_add _ h, lm_mod h]
  · rw [if_neg h]
    have h1 : lm (p % bw k + q / bw k * bw k) j = lm (q / bw k * bw k) j := by
      unfold lm
      obtain ⟨d, rfl⟩ : ∃ d, j = k + d := ⟨j - k, by omega⟩
      rw [bw_add, ← Nat.div_div_eq_div_mul, ← Nat.div_div_eq_div_mul, Nat.add_mul_div_right _ _ (bw_pos k), Nat.div_eq_of_lt (Nat.mod_lt _ (bw_pos k)), Nat.zero_add, Nat.mul_div_cancel _ (bw_pos k)]
    rw [h1, lm_down, if_pos (by omega)]
/-- The words below k are p's, those above q's; the next one of p' is written. -/
theorem writes_mix {m p p' q k r : Nat} {x : Int} (e : r = k) (h : k < m) (hx : x = ((lm p' k : Nat) : Int)) (hp : p' % bw k = p % bw k) : Writes (numC true m (p % bw k + q / bw k * bw k)) r 1 (.int .u32 x) (numC true m (p' % bw (k + 1) + q / bw (k + 1) * bw (k + 1))) := by
  subst e hx
  refine ⟨rfl, by show r + 1 ≤ m; omega, rfl, fun j hj => ?_⟩
  have hj : j < m := hj
  rw [seg_cell hj, seg_cell hj, lm_mix, lm_mix]
  rcases Nat.lt_trichotomy j r with h1 | h1 | h1
  · rw [if_neg (show ¬ (r ≤ j ∧ j < r + 1) by omega), if_pos (show j < r + 1 by omega), if_pos h1, ← lm_mod h1, hp, lm_mod h1]
  · subst h1; rw [if_pos (show j ≤ j ∧ j < j + 1 by omega), if_pos (show j < j + 1 by omega), Nat.sub_self]; rfl
  · rw [if_neg (show ¬ (r ≤ j ∧ j < r + 1) by omega), if_neg (show ¬ j < r + 1 by omega), if_neg (show ¬ j < r by omega)]
theorem mul_nl2 (a b : Nat) : a * b < bw (nl a + nl b) ∨ a * b = 0 := by
  rcases Nat.eq_zero_or_pos (a * b) with h | h
  · exact .inr h
  · left
    rw [bw_add]
    have ha := nl_self a
    have hb := nl_self b
    have hb0 : 0 < b := Nat.pos_of_ne_zero fun e => by rw [e, Nat.mul_zero] at h; omega
    exact Nat.lt_of_lt_of_le (Nat.mul_lt_mul_of_pos_right ha hb0) (Nat.mul_le_mul_left _ (Nat.le_of_lt hb))
theorem mul_nl3 (a b : Nat) : a * b < bw (nl a + nl b) := by
  rcases mul_nl2 a b with h | h
  · exact h
  · rw [h]; exact bw_pos _
/-- One word of a row of a product: S is what the rows before came to, C the carry. -/
theorem row_word (S x b i j C : Nat) (hx : x < 4294967296) (hC : C < 4294967296) (h : (S + x * (b % bw j) * bw i) / bw (i + j) = C + S / bw (i + j)) :
    lm (S + x * (b % bw (j + 1)) * bw i) (i + j) = (C + (x * lm b j + lm S (i + j))) % 4294967296 ∧
    (S + x * (b % bw (j + 1)) * bw i) / bw (i + j + 1) = (C + (x * lm b j + lm S (i + j))) / 4294967296 + S / bw (i + j + 1) ∧
    C + (x * lm b j + lm S (i + j)) < 18446744073709551616 ∧ (C + (x * lm b j + lm S (i + j))) / 4294967296 < 4294967296 ∧
    (S + x * (b % bw (j + 1)) * bw i) % bw (i + j) = (S + x * (b % bw j) * bw i) % bw (i + j) := by
  have hb := lm_lt b j
  have hS := lm_lt S (i + j)
  have hxy : x * lm b j ≤ 4294967295 * 4294967295 := Nat.mul_le_mul (by omega) (by omega)
  have hV : S + x * (b % bw (j + 1)) * bw i = (S + x * (b % bw j) * bw i) + x * lm b j * bw (i + j) := by
    rw [low_word, Nat.mul_add, Nat.add_mul, bw_add, Nat.mul_comm (bw i) (bw j), ← Nat.mul_assoc, ← Nat.mul_assoc, Nat.add_assoc]
  have hd : (S + x * (b % bw (j + 1)) * bw i) / bw (i + j) = (C + (x * lm b j + lm S (i + j))) + S / bw (i + j + 1) * 4294967296 := by
    rw [hV, Nat.add_mul_div_right _ _ (bw_pos _), h, up_word S (i + j)]; omega
  refine ⟨?_, ?_, by omega, by omega, ?_⟩
  · show (S + x * (b % bw (j + 1)) * bw i) / bw (i + j) % 4294967296 = _
    rw [hd, Nat.add_mul_mod_self_right]
  · rw [bw_succ (i + j), ← Nat.div_div_eq_div_mul, hd, Nat.add_mul_div_right _ _ (by decide), ← bw_succ]
  · rw [hV, Nat.add_mul_mod_self_right]
/-- One word of a difference. -/
def brw (a b i : Nat) : Int := if a % bw i < b % bw i then -1 else 0
theorem sub_word (a b i : Nat) (h : b ≤ a) : ((brw a b i + (lm a i : Nat)) - (lm b i : Nat)) % 4294967296 = (lm (a - b) i : Nat) ∧ ((brw a b i + (lm a i : Nat)) - (lm b i : Nat)).fdiv 4294967296 = brw a b (i + 1) ∧ -1 ≤ brw a b i ∧ brw a b i ≤ 0 := by
  have hD := bw_pos i
  have ha := Nat.div_add_mod a (bw i)
  have hb := Nat.div_add_mod b (bw i)
  have hA := Nat.mod_lt a hD
  have hB := Nat.mod_lt b hD
  have hqq : ∀ {x y : Nat}, x < y → bw i * x + bw i ≤ bw i * y := fun {x y} hxy => by
    have := Nat.mul_le_mul_left (bw i) (show x + 1 ≤ y by omega)
    rwa [Nat.mul_add, Nat.mul_one] at this
  have key : (((a - b) / bw i : Nat) : Int) = brw a b i + ((a / bw i : Nat) : Int) - ((b / bw i : Nat) : Int) := by
    unfold brw
    generalize a / bw i = qa at *
    generalize b / bw i = qb at *
    generalize a % bw i = A at *
    generalize b % bw i = B at *
    by_cases hlt : A < B
    · rw [if_pos hlt]
      have hq : qb < qa := by
        refine Nat.lt_of_not_le fun hle => ?_
        have : bw i * qa ≤ bw i * qb := Nat.mul_le_mul_left _ hle
        omega
      have e : a - b = (bw i + A - B) + (qa - qb - 1) * bw i := by
        obtain ⟨d, rfl⟩ : ∃ d, qa = qb + 1 + d := ⟨qa - (qb + 1), by omega⟩
        rw [show qb + 1 + d - qb - 1 = d from by omega, Nat.mul_comm d]
        rw [Nat.mul_add, Nat.mul_add, Nat.mul_one] at ha
        omega
      rw [e, Nat.add_mul_div_right _ _ hD, Nat.div_eq_of_lt (by omega)]
      omega
    · rw [if_neg hlt]
      have hq : qb ≤ qa := by
        refine Nat.le_of_not_lt fun hle => ?_
        have := hqq hle
        omega
      have e : a - b = (A - B) + (qa - qb) * bw i := by
        obtain ⟨d, rfl⟩ : ∃ d, qa = qb + d := ⟨qa - qb, by omega⟩
        rw [show qb + d - qb = d from by omega, Nat.mul_comm d]
        rw [Nat.mul_add] at ha
        omega
      rw [e, Nat.add_mul_div_right _ _ hD, Nat.div_eq_of_lt (by omega)]
      omega
  have hb1 : -1 ≤ brw a b i ∧ brw a b i ≤ 0 := by unfold brw; split <;> omega
  have hx := lm_lt a i
  have hy := lm_lt b i
  refine ⟨?_, ?_, hb1.1, hb1.2⟩
  · unfold lm at hx hy ⊢
    omega
  · have h1 : brw a b (i + 1) = if a % bw i + lm a i * bw i < b % bw i + lm b i * bw i then -1 else 0 := by
      unfold brw; rw [low_word, low_word]
    rw [h1]
    unfold brw at hb1 ⊢
    generalize a % bw i = A at *
    generalize b % bw i = B at *
    generalize lm a i = x at *
    generalize lm b i = y at *
    have hf : ∀ z : Int, z.fdiv 4294967296 = z / 4294967296 := fun z => Int.fdiv_eq_ediv_of_nonneg _ (by decide)
    rw [hf]
    rcases Nat.lt_trichotomy x y with hxy | hxy | hxy
    · have := hqq hxy
      rw [if_pos (show A + x * bw i < B + y * bw i by rw [Nat.mul_comm x, Nat.mul_comm y]; omega)]
      split <;> omega
    · subst hxy
      by_cases hlt : A < B
      · rw [if_pos hlt, if_pos (by omega)]; omega
      · rw [if_neg hlt, if_neg (by omega)]; omega
    · have := hqq hxy
      rw [if_neg (show ¬ A + x * bw i < B + y * bw i by rw [Nat.mul_comm x, Nat.mul_comm y]; omega)]
      split <;> omega
set_option maxRecDepth 100000 in
set_option maxHeartbeats 2000000 in
theorem cTimesN (a b m q i j K : Nat) (o o2 : Chunk) (h : List (Option Chunk)) (hi : h[i]? = some (some o)) (hin : IsNum o m a) (hj : h[j]? = some (some o2)) (hjn : IsNum o2 q b) (hl : nl a ≤ m) (hm : m ≤ 31) (hl2 : nl b ≤ q) (hq : q ≤ 31) (hp : 0 < nl a + nl b) (h0 : h[K]? = some none) :
    CallOK Tryz.prog 91 [.slice (some ⟨i, 0, some 0⟩) (nl a) m, .slice (some ⟨j, 0, some 0⟩) (nl b) q] h (.slice (some ⟨K, 0, some 0⟩) (nl (a * b)) (nl a + nl b)) [(K, numC true (nl a + nl b) (a * b))] [i, j] := by
  have hab := mul_nl3 a b
  refine call_sub (G := tys) [⟨i, _, numC false m a, ⟨false, 0, []⟩⟩, ⟨j, _, numC false q b, ⟨false, 0, []⟩⟩] [⟨K, 10, numC true (nl a + nl b) (a * b)⟩] [.slice (some ⟨0, 0, some 0⟩) (nl a) m, .slice (some ⟨1, 0, some 0⟩) (nl b) q] tysOK mixed Tryz.func91 (by rfl) (Tryz.call91) ⟨hi, hj, trivial⟩ ⟨⟨fun h => (by cases h), Nat.le_of_eq hin.1.symm, num_re hin⟩, ⟨fun h => (by cases h), Nat.le_of_eq hjn.1.symm, num_re hjn⟩, trivial⟩ (by simp [Apart]) ⟨⟨h0, rfl, by show 0 < nl a + nl b; exact hp, by simp⟩, trivial⟩ ⟨.slice rfl, .slice rfl, trivial⟩ ?_
  repeat' (refine N.go ?_; first | with_reducible refine N.obl (by decide) ?_ | with_reducible refine N.obl (flat_wi _ _ _) ?_ | with_reducible refine N.obl (flat_lim _ _) ?_ | with_reducible refine N.eq ?_ | with_reducible refine N.obl rfl ?_ | with_reducible refine N.obl ⟨by kernel_rfl, by kernel_rfl⟩ ?_ | with_reducible refine N.alt ?_ | with_reducible refine N.forkT ?_ | with_reducible refine N.forkF ?_ | refine MakeN.mk1 (nl a + nl b) (nl a + nl b) (by rw [i64n _ (by omega) (by omega)]; rfl) (by rw [i64n _ (by omega) (by omega)]; rfl) (by show 4 * (nl a + nl b) ≤ _; omega) (by omega) (Nat.mul_one _).symm ?_ | refine N.forkNo (by decide) ?_ | refine N.forkYes (by decide) ?_ | refine N.forkYes (by rw [decide_eq_true_eq]; omega) ?_ | refine N.forkNo (by rw [decide_eq_false_iff_not]; omega) ?_ | refine N.obl trivial ?_ | exact N.true | fail_if_success skip)
  refine N.go ?_
  refine N.loop (α := Nat) (fun i => i ≤ nl a) (fun i => nl a - i) (fun i => [(19, .int .i64 (i : Int))]) (fun i => [(10, numC true (nl a + nl b) (a % bw i * b))]) 0 (Nat.zero_le _) ?_ ?_
  · repeat (refine N.go ?_; first | exact N.true | with_reducible refine N.obl rfl ?_ | with_reducible refine N.obl (ChunkLe.refl _) ?_ | refine N.obl (int_i64 (by rw [IntWalk.i64_in _ (by omega)]; rfl)) ?_ | refine N.obl (by rw [bw_zero, Nat.mod_one, Nat.zero_mul]; exact zeros_num) ?_ |  fail_if_success skip)
  · intro i hi'
    have hi' : i ≤ nl a := hi'
    rcases Nat.lt_or_ge i (nl a) with hlt | hge
    · have hx := lm_lt a i
      have hSlt : a % bw i * b < bw (i + nl b) := by
        rw [bw_add]
        rcases Nat.eq_zero_or_pos b with e | e
        · subst e; rw [Nat.mul_zero]; exact Nat.mul_pos (bw_pos _) (bw_pos _)
        · exact Nat.lt_of_lt_of_le (Nat.mul_lt_mul_of_pos_right (Nat.mod_lt _ (bw_pos i)) e) (Nat.mul_le_mul_left _ (Nat.le_of_lt (nl_self b)))
      have hV : a % bw (i + 1) * b = a % bw i * b + lm a i * (b % bw (nl b)) * bw i := by
        rw [low_word, Nat.add_mul, Nat.mod_eq_of_lt (nl_self b), Nat.mul_right_comm]
      have hVlt : a % bw (i + 1) * b < bw (i + nl b + 1) := by
        have hbb := bw_add (i + 1) (nl b)
        rw [show i + nl b + 1 = (i + 1) + nl b from by omega, hbb]
        rcases Nat.eq_zero_or_pos b with e | e
        · rw [e, Nat.mul_zero]; exact Nat.mul_pos (bw_pos _) (bw_pos _)
        · exact Nat.lt_of_lt_of_le (Nat.mul_lt_mul_of_pos_right (Nat.mod_lt _ (bw_pos _)) e) (Nat.mul_le_mul_left _ (Nat.le_of_lt (nl_self b)))
      generalize hS : a % bw i * b = S at *
      generalize hX : lm a i = x at *
      repeat' (refine N.go ?_; first | with_reducible refine N.obl (by decide) ?_ | with_reducible refine N.obl (flat_wi _ _ _) ?_ | with_reducible refine N.obl (flat_lim _ _) ?_ | with_reducible refine N.eq ?_ | with_reducible refine N.obl rfl ?_ | with_reducible refine N.obl ⟨by kernel_rfl, by kernel_rfl⟩ ?_ | with_reducible refine N.alt ?_ | with_reducible refine N.forkT ?_ | with_reducible refine N.forkF ?_ | refine N.idx i 1 (by first | rfl | exact i64n _ (by omega) (by omega) | (rw [i64n _ (by omega) (by omega)]; omega)) (by omega) ?_ | refine N.load (.int .u32 ((x : Nat) : Int)) (by rw [← hX]; exact reads_num (p := i) (by omega) (by omega)) ?_ | refine N.forkNo (by decide) ?_ | refine N.forkYes (by decide) ?_ | refine N.forkYes (by rw [decide_eq_true_eq]; omega) ?_ | refine N.forkNo (by rw [decide_eq_false_iff_not]; omega) ?_ | refine N.obl trivial ?_ | exact N.true | fail_if_success skip)
      refine N.go ?_
      refine N.loop (α := Nat × Nat) (fun s => s.1 ≤ nl b ∧ s.2 < 4294967296 ∧ (S + x * (b % bw s.1) * bw i) / bw (i + s.1) = s.2 + S / bw (i + s.1)) (fun s => nl b - s.1) (fun s => [(26, .int .i64 (s.1 : Int)), (8, .int .u64 (s.2 : Int))]) (fun s => [(10, numC true (nl a + nl b) ((S + x * (b % bw s.1) * bw i) % bw (i + s.1) + S / bw (i + s.1) * bw (i + s.1)))]) (0, 0) ⟨Nat.zero_le _, by decide, by rw [bw_zero, Nat.mod_one, Nat.mul_zero, Nat.zero_mul, Nat.add_zero, Nat.zero_add]⟩ ?_ ?_
      · repeat (refine N.go ?_; first | exact N.true | with_reducible refine N.obl rfl ?_ | with_reducible refine N.obl (ChunkLe.refl _) ?_ | refine N.obl (int_i64 (by rw [IntWalk.i64_in _ (by omega)]; rfl)) ?_ | refine N.obl (by rw [bw_zero, Nat.mod_one, Nat.mul_zero, Nat.zero_mul, Nat.add_zero, Nat.add_zero, Nat.mod_add_div' ]; exact ChunkLe.refl _) ?_ |  fail_if_success skip)
      · rintro ⟨j, C⟩ ⟨hj', hC, hrel⟩
        have hj' : j ≤ nl b := hj'
        have hC : C < 4294967296 := hC
        have hrel : (S + x * (b % bw j) * bw i) / bw (i + j) = C + S / bw (i + j) := hrel
        rcases Nat.lt_or_ge j (nl b) with hjl | hjg
        · obtain ⟨m1, m2, m3, m4, m5⟩ := row_word S x b i j C hx hC hrel
          have hy := lm_lt b j
          have hz := lm_lt S (i + j)
          have hold : lm ((S + x * (b % bw j) * bw i) % bw (i + j) + S / bw (i + j) * bw (i + j)) (i + j) = lm S (i + j) := by rw [lm_mix, if_neg (Nat.lt_irrefl _)]
          have hxy : x * lm b j ≤ 4294967295 * 4294967295 := Nat.mul_le_mul (by omega) (by omega)
          have ev : IntKind.u64.wrap ((C : Int) + IntKind.u64.wrap (IntKind.u64.wrap (IntKind.u64.wrap ((x : Nat) : Int) * IntKind.u64.wrap ((lm b j : Nat) : Int)) + IntKind.u64.wrap ((lm ((S + x * (b % bw j) * bw i) % bw (i + j) + S / bw (i + j) * bw (i + j)) (i + j) : Nat) : Int))) = ((C + (x * lm b j + lm S (i + j)) : Nat) : Int) := by
            rw [hold, w64 (n := x) (by omega), w64 (n := lm b j) (by omega), w64 (n := lm S (i + j)) (by omega), ← Int.natCast_mul, w64 (n := x * lm b j) (by omega), ← Int.natCast_add, w64 (n := x * lm b j + lm S (i + j)) (by omega), ← Int.natCast_add, w64 m3]
          generalize hT : C + (x * lm b j + lm S (i + j)) = T at *
          repeat' (refine N.go ?_; first | with_reducible refine N.obl (by decide) ?_ | with_reducible refine N.obl (flat_wi _ _ _) ?_ | with_reducible refine N.obl (flat_lim _ _) ?_ | with_reducible refine N.eq ?_ | with_reducible refine N.obl rfl ?_ | with_reducible refine N.obl ⟨by kernel_rfl, by kernel_rfl⟩ ?_ | with_reducible refine N.alt ?_ | with_reducible refine N.forkT ?_ | with_reducible refine N.forkF ?_ | refine N.idx j 1 (by first | rfl | exact i64n _ (by omega) (by omega) | (rw [i64n _ (by omega) (by omega)]; omega)) (by omega) ?_ | refine N.load _ (reads_num (p := j) (by omega) (by omega)) ?_ | refine N.idx (i + j) 1 (by first | rfl | exact i64n _ (by omega) (by omega) | (rw [i64n _ (by omega) (by omega)]; omega)) (by omega) ?_ | refine N.load _ (reads_num (p := i + j) (by omega) (by omega)) ?_ | refine N.store _ (writes_mix (p' := S + x * (b % bw (j + 1)) * bw i) (by omega) (by omega) (by rw [ev, w32, m1]) m5) ?_ | refine N.forkNo (by decide) ?_ | refine N.forkYes (by decide) ?_ | refine N.forkYes (by rw [decide_eq_true_eq]; omega) ?_ | refine N.forkNo (by rw [decide_eq_false_iff_not]; omega) ?_ | refine N.obl trivial ?_ | exact N.true | fail_if_success skip)
          refine N.go ?_
          refine N.next ((j + 1, T / 4294967296) : Nat × Nat) ⟨⟨by show j + 1 ≤ nl b; omega, m4, m2⟩, by show nl b - (j + 1) < nl b - j; omega⟩ ?_
          repeat (refine N.go ?_; first | exact N.true | with_reducible refine N.obl rfl ?_ | with_reducible refine N.obl (ChunkLe.refl _) ?_ | refine N.obl (int_i64 (by rw [IntWalk.i64_in _ (by omega)]; rfl)) ?_ | refine N.obl (inteq (by rw [i64n _ (by omega) (by omega)]; rfl)) ?_ | refine N.obl (inteq (by rw [ev, fd32])) ?_ |  fail_if_success skip)
        · obtain rfl : j = nl b := by omega
          have hq0 : S / bw (i + nl b) = 0 := Nat.div_eq_of_lt hSlt
          have hCe : (C : Int) = ((lm (a % bw (i + 1) * b) (i + nl b) : Nat) : Int) := by
            rw [hq0, Nat.add_zero, ← hV] at hrel
            unfold lm; rw [hrel, Nat.mod_eq_of_lt hC]
          have hch : (S + x * (b % bw (nl b)) * bw i) % bw (i + nl b) + S / bw (i + nl b) * bw (i + nl b) = (a % bw (i + 1) * b) % bw (i + nl b) := by rw [hq0, Nat.zero_mul, Nat.add_zero, ← hV]
          have hme : a % bw (i + 1) * b = a % bw (i + 1) * b % bw (i + nl b + 1) := (Nat.mod_eq_of_lt hVlt).symm
          rw [hch]
          repeat' (refine N.go ?_; first | with_reducible refine N.obl (by decide) ?_ | with_reducible refine N.obl (flat_wi _ _ _) ?_ | with_reducible refine N.obl (flat_lim _ _) ?_ | with_reducible refine N.eq ?_ | with_reducible refine N.obl rfl ?_ | with_reducible refine N.obl ⟨by kernel_rfl, by kernel_rfl⟩ ?_ | with_reducible refine N.alt ?_ | with_reducible refine N.forkT ?_ | with_reducible refine N.forkF ?_ | refine N.idx (i + nl b) 1 (by first | rfl | exact i64n _ (by omega) (by omega) | (rw [i64n _ (by omega) (by omega)]; omega)) (by omega) ?_ | refine N.store _ (writes_next (v := a % bw (i + 1) * b) (by omega) (by omega) (by rw [w32, Nat.mod_eq_of_lt hC]; exact hCe)) ?_ | refine N.forkNo (by decide) ?_ | refine N.forkYes (by decide) ?_ | refine N.forkYes (by rw [decide_eq_true_eq]; omega) ?_ | refine N.forkNo (by rw [decide_eq_false_iff_not]; omega) ?_ | refine N.obl trivial ?_ | exact N.true | fail_if_success skip)
          refine N.go ?_
          refine N.next (i + 1) ⟨by show i + 1 ≤ nl a; omega, by show nl a - (i + 1) < nl a - i; omega⟩ ?_
          repeat (refine N.go ?_; first | exact N.true | with_reducible refine N.obl rfl ?_ | with_reducible refine N.obl (ChunkLe.refl _) ?_ | refine N.obl (int_i64 (by rw [IntWalk.i64_in _ (by omega)]; rfl)) ?_ | refine N.obl (inteq (by rw [i64n _ (by omega) (by omega)]; rfl)) ?_ | refine N.obl (by rw [← hme]; exact ChunkLe.refl _) ?_ |  fail_if_success skip)
    · obtain rfl : i = nl a := by omega
      have he : a % bw (nl a) * b = a * b := by rw [Nat.mod_eq_of_lt (nl_self a)]
      repeat' (refine N.go ?_; first | with_reducible refine N.obl (by decide) ?_ | with_reducible refine N.obl (flat_wi _ _ _) ?_ | with_reducible refine N.obl (flat_lim _ _) ?_ | with_reducible refine N.eq ?_ | with_reducible refine N.obl rfl ?_ | with_reducible refine N.obl ⟨by kernel_rfl, by kernel_rfl⟩ ?_ | with_reducible refine N.alt ?_ | with_reducible refine N.forkT ?_ | with_reducible refine N.forkF ?_ | refine N.call (cTrim (a * b) (nl a + nl b) (nl a + nl b) _ _ _ (by rfl) (by rw [he]; exact isNum _ _ _) (by omega) (by omega) hab) ?_ | refine N.obl (re_sl (by rfl) rfl) ?_ | refine N.obl ⟨⟨by show 2 ≤ 10; decide, post_num (by rfl) rfl (by rw [he]; exact isNum _ _ _)⟩, trivial⟩ ?_ | refine N.forkNo (by decide) ?_ | refine N.forkYes (by decide) ?_ | refine N.forkYes (by rw [decide_eq_true_eq]; omega) ?_ | refine N.forkNo (by rw [decide_eq_false_iff_not]; omega) ?_ | refine N.obl trivial ?_ | exact N.true | fail_if_success skip)
set_option maxRecDepth 100000 in
set_option maxHeartbeats 2000000 in
theorem cMinus (a b m q i j K : Nat) (o o2 : Chunk) (h : List (Option Chunk)) (hi : h[i]? = some (some o)) (hin : IsNum o m a) (hj : h[j]? = some (some o2)) (hjn : IsNum o2 q b) (hl : nl a ≤ m) (hm : m ≤ 31) (hl2 : nl b ≤ q) (hq : q ≤ 31) (hba : b ≤ a) (hp : 0 < nl a) (h0 : h[K]? = some none) :
    CallOK Tryz.prog 102 [.slice (some ⟨i, 0, some 0⟩) (nl a) m, .slice (some ⟨j, 0, some 0⟩) (nl b) q] h (.slice (some ⟨K, 0, some 0⟩) (nl (a - b)) (nl a)) [(K, numC true (nl a) (a - b))] [i, j] := by
  have hs : a - b < bw (nl a) := Nat.lt_of_le_of_lt (Nat.sub_le _ _) (nl_self a)
  refine call_sub (G := tys) [⟨i, _, numC false m a, ⟨false, 0, []⟩⟩, ⟨j, _, numC false q b, ⟨false, 0, []⟩⟩] [⟨K, 6, numC true (nl a) (a - b)⟩] [.slice (some ⟨0, 0, some 0⟩) (nl a) m, .slice (some ⟨1, 0, some 0⟩) (nl b) q] tysOK mixed Tryz.func102 (by rfl) (Tryz.call102) ⟨hi, hj, trivial⟩ ⟨⟨fun h => (by cases h), Nat.le_of_eq hin.1.symm, num_re hin⟩, ⟨fun h => (by cases h), Nat.le_of_eq hjn.1.symm, num_re hjn⟩, trivial⟩ (by simp [Apart]) ⟨⟨h0, rfl, by show 0 < nl a; exact hp, by simp⟩, trivial⟩ ⟨.slice rfl, .slice rfl, trivial⟩ ?_
  repeat' (refine N.go ?_; first | with_reducible refine N.obl (by decide) ?_ | with_reducible refine N.obl (flat_wi _ _ _) ?_ | with_reducible refine N.obl (flat_lim _ _) ?_ | with_reducible refine N.eq ?_ | with_reducible refine N.obl rfl ?_ | with_reducible refine N.obl ⟨by kernel_rfl, by kernel_rfl⟩ ?_ | with_reducible refine N.alt ?_ | with_reducible refine N.forkT ?_ | with_reducible refine N.forkF ?_ | refine MakeN.mk1 (nl a) (nl a) rfl rfl (by show 4 * (nl a) ≤ _; omega) (by omega) (Nat.mul_one _).symm ?_ | refine N.forkNo (by decide) ?_ | refine N.forkYes (by decide) ?_ | refine N.forkYes (by rw [decide_eq_true_eq]; omega) ?_ | refine N.forkNo (by rw [decide_eq_false_iff_not]; omega) ?_ | refine N.obl trivial ?_ | exact N.true | fail_if_success skip)
  refine N.go ?_
  refine N.loop (α := Nat) (fun i => i ≤ nl a) (fun i => nl a - i) (fun i => [(13, .int .i64 (i : Int)), (6, .int .i64 (brw a b i))]) (fun i => [(6, numC true (nl a) ((a - b) % bw i))]) 0 (Nat.zero_le _) ?_ ?_
  · repeat (refine N.go ?_; first | exact N.true | with_reducible refine N.obl rfl ?_ | with_reducible refine N.obl (ChunkLe.refl _) ?_ | refine N.obl (int_i64 (by rw [IntWalk.i64_in _ (by omega)]; rfl)) ?_ | refine N.obl (by rw [bw_zero, Nat.mod_one]; exact zeros_num) ?_ | refine N.obl (inteq (by unfold brw; rw [bw_zero, Nat.mod_one, Nat.mod_one]; rfl)) ?_ |  fail_if_success skip)
  · intro i hi'
    have hi' : i ≤ nl a := hi'
    rcases Nat.lt_or_ge i (nl a) with hlt | hge
    · obtain ⟨m1, m2, m3, m4⟩ := sub_word a b i hba
      have hx := lm_lt a i
      have hy := lm_lt b i
      have hsh : ∀ z : Int, z.fdiv (2 ^ sh 32 IntKind.i64) = z.fdiv 4294967296 := fun z => rfl
      generalize hc0 : brw a b i = C at *
      have ev : IntKind.i64.wrap (IntKind.i64.wrap (C + IntKind.i64.wrap ((lm a i : Nat) : Int)) - IntKind.i64.wrap ((lm b i : Nat) : Int)) = C + (lm a i : Nat) - (lm b i : Nat) := by
        rw [i64n (lm a i : Nat) (by omega) (by omega), i64n (lm b i : Nat) (by omega) (by omega), i64n (C + (lm a i : Nat)) (by omega) (by omega), i64n _ (by omega) (by omega)]
      rcases Nat.lt_or_ge i (nl b) with hib | hib
      · repeat' (refine N.go ?_; first | with_reducible refine N.obl (by decide) ?_ | with_reducible refine N.obl (flat_wi _ _ _) ?_ | with_reducible refine N.obl (flat_lim _ _) ?_ | with_reducible refine N.eq ?_ | with_reducible refine N.obl rfl ?_ | with_reducible refine N.obl ⟨by kernel_rfl, by kernel_rfl⟩ ?_ | with_reducible refine N.alt ?_ | with_reducible refine N.forkT ?_ | with_reducible refine N.forkF ?_ | refine N.idx i 1 (by first | rfl | exact i64n _ (by omega) (by omega) | (rw [i64n _ (by omega) (by omega)]; omega)) (by omega) ?_ | refine N.load _ (reads_num (p := i) (by omega) (by omega)) ?_ | refine N.store _ (writes_next rfl (by omega) (by rw [ev, IntKind.wrap_u32, m1])) ?_ | refine N.forkNo (by decide) ?_ | refine N.forkYes (by decide) ?_ | refine N.forkYes (by rw [decide_eq_true_eq]; omega) ?_ | refine N.forkNo (by rw [decide_eq_false_iff_not]; omega) ?_ | refine N.obl trivial ?_ | exact N.true | fail_if_success skip)
        refine N.go ?_
        refine N.next (i + 1) ⟨by show i + 1 ≤ nl a; omega, by show nl a - (i + 1) < nl a - i; omega⟩ ?_
        repeat (refine N.go ?_; first | exact N.true | with_reducible refine N.obl rfl ?_ | with_reducible refine N.obl (ChunkLe.refl _) ?_ | refine N.obl (int_i64 (by rw [IntWalk.i64_in _ (by omega)]; rfl)) ?_ | refine N.obl (inteq (by rw [i64n _ (by omega) (by omega)]; rfl)) ?_ | refine N.obl (inteq (by rw [ev, hsh, m2])) ?_ |  fail_if_success skip)
      · have hz : lm b i = 0 := lm_big (Nat.lt_of_lt_of_le (nl_self b) (bw_mono hib))
        have ev0 : IntKind.i64.wrap (C + IntKind.i64.wrap ((lm a i : Nat) : Int)) = C + (lm a i : Nat) - (lm b i : Nat) := by
          rw [hz, i64n (lm a i : Nat) (by omega) (by omega), i64n _ (by omega) (by omega)]; omega
        repeat' (refine N.go ?_; first | with_reducible refine N.obl (by decide) ?_ | with_reducible refine N.obl (flat_wi _ _ _) ?_ | with_reducible refine N.obl (flat_lim _ _) ?_ | with_reducible refine N.eq ?_ | with_reducible refine N.obl rfl ?_ | with_reducible refine N.obl ⟨by kernel_rfl, by kernel_rfl⟩ ?_ | with_reducible refine N.alt ?_ | with_reducible refine N.forkT ?_ | with_reducible refine N.forkF ?_ | refine N.idx i 1 (by first | rfl | exact i64n _ (by omega) (by omega) | (rw [i64n _ (by omega) (by omega)]; omega)) (by omega) ?_ | refine N.load _ (reads_num (p := i) (by omega) (by omega)) ?_ | refine N.store _ (writes_next rfl (by omega) (by rw [ev0, IntKind.wrap_u32, m1])) ?_ | refine N.forkNo (by decide) ?_ | refine N.forkYes (by decide) ?_ | refine N.forkYes (by rw [decide_eq_true_eq]; omega) ?_ | refine N.forkNo (by rw [decide_eq_false_iff_not]; omega) ?_ | refine N.obl trivial ?_ | exact N.true | fail_if_success skip)
        refine N.go ?_
        refine N.next (i + 1) ⟨by show i + 1 ≤ nl a; omega, by show nl a - (i + 1) < nl a - i; omega⟩ ?_
        repeat (refine N.go ?_; first | exact N.true | with_reducible refine N.obl rfl ?_ | with_reducible refine N.obl (ChunkLe.refl _) ?_ | refine N.obl (int_i64 (by rw [IntWalk.i64_in _ (by omega)]; rfl)) ?_ | refine N.obl (inteq (by rw [i64n _ (by omega) (by omega)]; rfl)) ?_ | refine N.obl (inteq (by rw [ev0, hsh, m2])) ?_ |  fail_if_success skip)
    · obtain rfl : i = nl a := by omega
      have he : (a - b) % bw (nl a) = a - b := Nat.mod_eq_of_lt hs
      repeat' (refine N.go ?_; first | with_reducible refine N.obl (by decide) ?_ | with_reducible refine N.obl (flat_wi _ _ _) ?_ | with_reducible refine N.obl (flat_lim _ _) ?_ | with_reducible refine N.eq ?_ | with_reducible refine N.obl rfl ?_ | with_reducible refine N.obl ⟨by kernel_rfl, by kernel_rfl⟩ ?_ | with_reducible refine N.alt ?_ | with_reducible refine N.forkT ?_ | with_reducible refine N.forkF ?_ | refine N.call (cTrim (a - b) (nl a) (nl a) _ _ _ (by rfl) (by rw [he]; exact isNum _ _ _) (by omega) (by omega) hs) ?_ | refine N.obl (re_sl (by rfl) rfl) ?_ | refine N.obl ⟨⟨by show 2 ≤ 6; decide, post_num (by rfl) rfl (by rw [he]; exact isNum _ _ _)⟩, trivial⟩ ?_ | refine N.forkNo (by decide) ?_ | refine N.forkYes (by decide) ?_ | refine N.forkYes (by rw [decide_eq_true_eq]; omega) ?_ | refine N.forkNo (by rw [decide_eq_false_iff_not]; omega) ?_ | refine N.obl trivial ?_ | exact N.true | fail_if_success skip)
set_option maxRecDepth 100000 in
set_option maxHeartbeats 2000000 in
theorem cPlusA (a b m q i j K : Nat) (o o2 : Chunk) (h : List (Option Chunk)) (hi : h[i]? = some (some o)) (hin : IsNum o m a) (hj : h[j]? = some (some o2)) (hjn : IsNum o2 q b) (hl : nl a ≤ m) (hm : m ≤ 31) (hl2 : nl b ≤ q) (hq : q ≤ 31) (hba : nl b ≤ nl a) (h0 : h[K]? = some none) :
    CallOK Tryz.prog 100 [.slice (some ⟨i, 0, some 0⟩) (nl a) m, .slice (some ⟨j, 0, some 0⟩) (nl b) q] h (.slice (some ⟨K, 0, some 0⟩) (nl (a + b)) (nl a + 1)) [(K, numC true (nl a + 1) (a + b))] [i, j] := by
  have hs : a + b < bw (nl a + 1) := by
    rw [bw_succ]
    have h1 := nl_self a
    have h2 := nl_le.1 (show nl b ≤ nl a by omega)
    omega
  refine call_sub (G := tys) [⟨i, _, numC false m a, ⟨false, 0, []⟩⟩, ⟨j, _, numC false q b, ⟨false, 0, []⟩⟩] [⟨K, 6, numC true (nl a + 1) (a + b)⟩] [.slice (some ⟨0, 0, some 0⟩) (nl a) m, .slice (some ⟨1, 0, some 0⟩) (nl b) q] tysOK mixed Tryz.func100 (by rfl) (Tryz.call100) ⟨hi, hj, trivial⟩ ⟨⟨fun h => (by cases h), Nat.le_of_eq hin.1.symm, num_re hin⟩, ⟨fun h => (by cases h), Nat.le_of_eq hjn.1.symm, num_re hjn⟩, trivial⟩ (by simp [Apart]) ⟨⟨h0, rfl, by show 0 < nl a + 1; omega, by simp⟩, trivial⟩ ⟨.slice rfl, .slice rfl, trivial⟩ ?_
  repeat' (refine N.go ?_; first | with_reducible refine N.obl (by decide) ?_ | with_reducible refine N.obl (flat_wi _ _ _) ?_ | with_reducible refine N.obl (flat_lim _ _) ?_ | with_reducible refine N.eq ?_ | with_reducible refine N.obl rfl ?_ | with_reducible refine N.obl ⟨by kernel_rfl, by kernel_rfl⟩ ?_ | with_reducible refine N.alt ?_ | with_reducible refine N.forkT ?_ | with_reducible refine N.forkF ?_ | refine MakeN.mk1 (nl a + 1) (nl a + 1) (by rw [i64n _ (by omega) (by omega)]; rfl) (by rw [i64n _ (by omega) (by omega)]; rfl) (by show 4 * (nl a + 1) ≤ _; omega) (by omega) (Nat.mul_one _).symm ?_ | refine N.forkNo (by decide) ?_ | refine N.forkYes (by decide) ?_ | refine N.forkYes (by rw [decide_eq_true_eq]; omega) ?_ | refine N.forkNo (by rw [decide_eq_false_iff_not]; omega) ?_ | refine N.obl trivial ?_ | exact N.true | fail_if_success skip)
  refine N.go ?_
  refine N.loop (α := Nat) (fun i => i ≤ nl a) (fun i => nl a - i) (fun i => [(21, .int .i64 (i : Int)), (6, .int .u64 (((a % bw i + b % bw i) / bw i : Nat) : Int))]) (fun i => [(6, numC true (nl a + 1) ((a + b) % bw i))]) 0 (Nat.zero_le _) ?_ ?_
  · repeat (refine N.go ?_; first | exact N.true | with_reducible refine N.obl rfl ?_ | with_reducible refine N.obl (ChunkLe.refl _) ?_ | refine N.obl (int_i64 (by rw [IntWalk.i64_in _ (by omega)]; rfl)) ?_ | refine N.obl (by rw [bw_zero, Nat.mod_one]; exact zeros_num) ?_ | refine N.obl (inteq (by rw [bw_zero, Nat.mod_one, Nat.mod_one]; rfl)) ?_ |  fail_if_success skip)
  · intro i hi'
    have hi' : i ≤ nl a := hi'
    have hcm : a + b = a + b := by omega
    rcases Nat.lt_or_ge i (nl a) with hlt | hge
    · obtain ⟨m1, m2, m3⟩ := add_word a b i
      rw [hcm] at m1
      generalize hC : (a % bw i + b % bw i) / bw i = C at *
      have hx := lm_lt a i
      have hy := lm_lt b i
      have ev : IntKind.u64.wrap (IntKind.u64.wrap ((C : Int) + IntKind.u64.wrap ((lm a i : Nat) : Int)) + IntKind.u64.wrap ((lm b i : Nat) : Int)) = ((C + lm a i + lm b i : Nat) : Int) := by
        rw [w64 (n := lm a i) (by omega), w64 (n := lm b i) (by omega), ← Int.natCast_add, w64 (n := C + lm a i) (by omega), ← Int.natCast_add, w64 (by omega)]
      have ev0 : IntKind.u64.wrap ((C : Int) + IntKind.u64.wrap ((lm a i : Nat) : Int)) = ((C + lm a i : Nat) : Int) := by
        rw [w64 (n := lm a i) (by omega), ← Int.natCast_add, w64 (n := C + lm a i) (by omega)]
      rcases Nat.lt_or_ge i (nl b) with hib | hib
      · repeat' (refine N.go ?_; first | with_reducible refine N.obl (by decide) ?_ | with_reducible refine N.obl (flat_wi _ _ _) ?_ | with_reducible refine N.obl (flat_lim _ _) ?_ | with_reducible refine N.eq ?_ | with_reducible refine N.obl rfl ?_ | with_reducible refine N.obl ⟨by kernel_rfl, by kernel_rfl⟩ ?_ | with_reducible refine N.alt ?_ | with_reducible refine N.forkT ?_ | with_reducible refine N.forkF ?_ | refine N.store _ (writes_next rfl (by omega) (by rw [ev, w32, m1])) ?_ | refine N.idx i 1 rfl (by omega) ?_ | refine N.load _ (reads_num (p := i) (by omega) (by omega)) ?_ | refine N.forkNo (by decide) ?_ | refine N.forkYes (by decide) ?_ | refine N.forkYes (by rw [decide_eq_true_eq]; omega) ?_ | refine N.forkNo (by rw [decide_eq_false_iff_not]; omega) ?_ | refine N.obl trivial ?_ | exact N.true | fail_if_success skip)
        refine N.go ?_
        refine N.next (i + 1) ⟨by show i + 1 ≤ nl a; omega, by omega⟩ ?_
        repeat (refine N.go ?_; first | exact N.true | with_reducible refine N.obl rfl ?_ | with_reducible refine N.obl (ChunkLe.refl _) ?_ | refine N.obl (int_i64 (by rw [IntWalk.i64_in _ (by omega)]; rfl)) ?_ | refine N.obl (inteq (by rw [i64n _ (by omega) (by omega)]; omega)) ?_ | refine N.obl (inteq (by rw [ev, fd32, m2])) ?_ |  fail_if_success skip)
      · have hz : lm b i = 0 := lm_big (Nat.lt_of_lt_of_le (nl_self b) (bw_mono hib))
        repeat' (refine N.go ?_; first | with_reducible refine N.obl (by decide) ?_ | with_reducible refine N.obl (flat_wi _ _ _) ?_ | with_reducible refine N.obl (flat_lim _ _) ?_ | with_reducible refine N.eq ?_ | with_reducible refine N.obl rfl ?_ | with_reducible refine N.obl ⟨by kernel_rfl, by kernel_rfl⟩ ?_ | with_reducible refine N.alt ?_ | with_reducible refine N.forkT ?_ | with_reducible refine N.forkF ?_ | refine N.store _ (writes_next rfl (by omega) (by rw [ev0, w32, m1, hz]; rfl)) ?_ | refine N.idx i 1 rfl (by omega) ?_ | refine N.load _ (reads_num (p := i) (by omega) (by omega)) ?_ | refine N.forkNo (by decide) ?_ | refine N.forkYes (by decide) ?_ | refine N.forkYes (by rw [decide_eq_true_eq]; omega) ?_ | refine N.forkNo (by rw [decide_eq_false_iff_not]; omega) ?_ | refine N.obl trivial ?_ | exact N.true | fail_if_success skip)
        refine N.go ?_
        refine N.next (i + 1) ⟨by show i + 1 ≤ nl a; omega, by omega⟩ ?_
        repeat (refine N.go ?_; first | exact N.true | with_reducible refine N.obl rfl ?_ | with_reducible refine N.obl (ChunkLe.refl _) ?_ | refine N.obl (int_i64 (by rw [IntWalk.i64_in _ (by omega)]; rfl)) ?_ | refine N.obl (inteq (by rw [i64n _ (by omega) (by omega)]; omega)) ?_ | refine N.obl (inteq (by rw [ev0, fd32, m2, hz]; rfl)) ?_ |  fail_if_success skip)
    · obtain rfl : i = nl a := by omega
      have ha := nl_self a
      have hb := nl_le.1 (show nl b ≤ nl a by omega)
      have hc : ((a % bw (nl a) + b % bw (nl a)) / bw (nl a)) = lm (a + b) (nl a) := by
        rw [Nat.mod_eq_of_lt ha, Nat.mod_eq_of_lt hb, hcm]
        unfold lm
        rw [Nat.mod_eq_of_lt ((Nat.div_lt_iff_lt_mul (bw_pos _)).2 (by rw [Nat.mul_comm, ← bw_succ]; exact hs))]
      have hlt := lm_lt (a + b) (nl a)
      have he : (a + b) % bw (nl a + 1) = a + b := Nat.mod_eq_of_lt hs
      repeat' (refine N.go ?_; first | with_reducible refine N.obl (by decide) ?_ | with_reducible refine N.obl (flat_wi _ _ _) ?_ | with_reducible refine N.obl (flat_lim _ _) ?_ | with_reducible refine N.eq ?_ | with_reducible refine N.obl rfl ?_ | with_reducible refine N.obl ⟨by kernel_rfl, by kernel_rfl⟩ ?_ | with_reducible refine N.alt ?_ | with_reducible refine N.forkT ?_ | with_reducible refine N.forkF ?_ | refine N.idx (nl a) 1 rfl (by omega) ?_ | refine N.store _ (writes_next rfl (by omega) (by rw [w32, hc]; omega)) ?_ | refine N.call (cTrim (a + b) (nl a + 1) (nl a + 1) _ _ _ (by rfl) (by rw [he]; exact isNum _ _ _) (by omega) (by omega) hs) ?_ | refine N.obl (re_sl (by rfl) rfl) ?_ | refine N.obl ⟨⟨by show 2 ≤ 6; decide, post_num (by rfl) rfl (by rw [he]; exact isNum _ _ _)⟩, trivial⟩ ?_ | refine N.forkNo (by decide) ?_ | refine N.forkYes (by decide) ?_ | refine N.forkYes (by rw [decide_eq_true_eq]; omega) ?_ | refine N.forkNo (by rw [decide_eq_false_iff_not]; omega) ?_ | refine N.obl trivial ?_ | exact N.true | fail_if_success skip)
set_option maxRecDepth 100000 in
set_option maxHeartbeats 2000000 in
theorem cPlusB (a b m q i j K : Nat) (o o2 : Chunk) (h : List (Option Chunk)) (hi : h[i]? = some (some o)) (hin : IsNum o m a) (hj : h[j]? = some (some o2)) (hjn : IsNum o2 q b) (hl : nl a ≤ m) (hm : m ≤ 31) (hl2 : nl b ≤ q) (hq : q ≤ 31) (hba : nl a < nl b) (h0 : h[K]? = some none) :
    CallOK Tryz.prog 100 [.slice (some ⟨i, 0, some 0⟩) (nl a) m, .slice (some ⟨j, 0, some 0⟩) (nl b) q] h (.slice (some ⟨K, 0, some 0⟩) (nl (a + b)) (nl b + 1)) [(K, numC true (nl b + 1) (a + b))] [i, j] := by
  have hs : a + b < bw (nl b + 1) := by
    rw [bw_succ]
    have h1 := nl_self b
    have h2 := nl_le.1 (show nl a ≤ nl b by omega)
    omega
  refine call_sub (G := tys) [⟨i, _, numC false m a, ⟨false, 0, []⟩⟩, ⟨j, _, numC false q b, ⟨false, 0, []⟩⟩] [⟨K, 6, numC true (nl b + 1) (a + b)⟩] [.slice (some ⟨0, 0, some 0⟩) (nl a) m, .slice (some ⟨1, 0, some 0⟩) (nl b) q] tysOK mixed Tryz.func100 (by rfl) (Tryz.call100) ⟨hi, hj, trivial⟩ ⟨⟨fun h => (by cases h), Nat.le_of_eq hin.1.symm, num_re hin⟩, ⟨fun h => (by cases h), Nat.le_of_eq hjn.1.symm, num_re hjn⟩, trivial⟩ (by simp [Apart]) ⟨⟨h0, rfl, by show 0 < nl b + 1; omega, by simp⟩, trivial⟩ ⟨.slice rfl, .slice rfl, trivial⟩ ?_
  repeat' (refine N.go ?_; first | with_reducible refine N.obl (by decide) ?_ | with_reducible refine N.obl (flat_wi _ _ _) ?_ | with_reducible refine N.obl (flat_lim _ _) ?_ | with_reducible refine N.eq ?_ | with_reducible refine N.obl rfl ?_ | with_reducible refine N.obl ⟨by kernel_rfl, by kernel_rfl⟩ ?_ | with_reducible refine N.alt ?_ | with_reducible refine N.forkT ?_ | with_reducible refine N.forkF ?_ | refine MakeN.mk1 (nl b + 1) (nl b + 1) (by rw [i64n _ (by omega) (by omega)]; rfl) (by rw [i64n _ (by omega) (by omega)]; rfl) (by show 4 * (nl b + 1) ≤ _; omega) (by omega) (Nat.mul_one _).symm ?_ | refine N.forkNo (by decide) ?_ | refine N.forkYes (by decide) ?_ | refine N.forkYes (by rw [decide_eq_true_eq]; omega) ?_ | refine N.forkNo (by rw [decide_eq_false_iff_not]; omega) ?_ | refine N.obl trivial ?_ | exact N.true | fail_if_success skip)
  refine N.go ?_
  refine N.loop (α := Nat) (fun i => i ≤ nl b) (fun i => nl b - i) (fun i => [(21, .int .i64 (i : Int)), (6, .int .u64 (((b % bw i + a % bw i) / bw i : Nat) : Int))]) (fun i => [(6, numC true (nl b + 1) ((a + b) % bw i))]) 0 (Nat.zero_le _) ?_ ?_
  · repeat (refine N.go ?_; first | exact N.true | with_reducible refine N.obl rfl ?_ | with_reducible refine N.obl (ChunkLe.refl _) ?_ | refine N.obl (int_i64 (by rw [IntWalk.i64_in _ (by omega)]; rfl)) ?_ | refine N.obl (by rw [bw_zero, Nat.mod_one]; exact zeros_num) ?_ | refine N.obl (inteq (by rw [bw_zero, Nat.mod_one, Nat.mod_one]; rfl)) ?_ |  fail_if_success skip)
  · intro i hi'
    have hi' : i ≤ nl b := hi'
    have hcm : b + a = a + b := by omega
    rcases Nat.lt_or_ge i (nl b) with hlt | hge
    · obtain ⟨m1, m2, m3⟩ := add_word b a i
      rw [hcm] at m1
      generalize hC : (b % bw i + a % bw i) / bw i = C at *
      have hx := lm_lt b i
      have hy := lm_lt a i
      have ev : IntKind.u64.wrap (IntKind.u64.wrap ((C : Int) + IntKind.u64.wrap ((lm b i : Nat) : Int)) + IntKind.u64.wrap ((lm a i : Nat) : Int)) = ((C + lm b i + lm a i : Nat) : Int) := by
        rw [w64 (n := lm b i) (by omega), w64 (n := lm a i) (by omega), ← Int.natCast_add, w64 (n := C + lm b i) (by omega), ← Int.natCast_add, w64 (by omega)]
      have ev0 : IntKind.u64.wrap ((C : Int) + IntKind.u64.wrap ((lm b i : Nat) : Int)) = ((C + lm b i : Nat) : Int) := by
        rw [w64 (n := lm b i) (by omega), ← Int.natCast_add, w64 (n := C + lm b i) (by omega)]
      rcases Nat.lt_or_ge i (nl a) with hib | hib
      · repeat' (refine N.go ?_; first | with_reducible refine N.obl (by decide) ?_ | with_reducible refine N.obl (flat_wi _ _ _) ?_ | with_reducible refine N.obl (flat_lim _ _) ?_ | with_reducible refine N.eq ?_ | with_reducible refine N.obl rfl ?_ | with_reducible refine N.obl ⟨by kernel_rfl, by kernel_rfl⟩ ?_ | with_reducible refine N.alt ?_ | with_reducible refine N.forkT ?_ | with_reducible refine N.forkF ?_ | refine N.store _ (writes_next rfl (by omega) (by rw [ev, w32, m1])) ?_ | refine N.idx i 1 rfl (by omega) ?_ | refine N.load _ (reads_num (p := i) (by omega) (by omega)) ?_ | refine N.forkNo (by decide) ?_ | refine N.forkYes (by decide) ?_ | refine N.forkYes (by rw [decide_eq_true_eq]; omega) ?_ | refine N.forkNo (by rw [decide_eq_false_iff_not]; omega) ?_ | refine N.obl trivial ?_ | exact N.true | fail_if_success skip)
        refine N.go ?_
        refine N.next (i + 1) ⟨by show i + 1 ≤ nl b; omega, by omega⟩ ?_
        repeat (refine N.go ?_; first | exact N.true | with_reducible refine N.obl rfl ?_ | with_reducible refine N.obl (ChunkLe.refl _) ?_ | refine N.obl (int_i64 (by rw [IntWalk.i64_in _ (by omega)]; rfl)) ?_ | refine N.obl (inteq (by rw [i64n _ (by omega) (by omega)]; omega)) ?_ | refine N.obl (inteq (by rw [ev, fd32, m2])) ?_ |  fail_if_success skip)
      · have hz : lm a i = 0 := lm_big (Nat.lt_of_lt_of_le (nl_self a) (bw_mono hib))
        repeat' (refine N.go ?_; first | with_reducible refine N.obl (by decide) ?_ | with_reducible refine N.obl (flat_wi _ _ _) ?_ | with_reducible refine N.obl (flat_lim _ _) ?_ | with_reducible refine N.eq ?_ | with_reducible refine N.obl rfl ?_ | with_reducible refine N.obl ⟨by kernel_rfl, by kernel_rfl⟩ ?_ | with_reducible refine N.alt ?_ | with_reducible refine N.forkT ?_ | with_reducible refine N.forkF ?_ | refine N.store _ (writes_next rfl (by omega) (by rw [ev0, w32, m1, hz]; rfl)) ?_ | refine N.idx i 1 rfl (by omega) ?_ | refine N.load _ (reads_num (p := i) (by omega) (by omega)) ?_ | refine N.forkNo (by decide) ?_ | refine N.forkYes (by decide) ?_ | refine N.forkYes (by rw [decide_eq_true_eq]; omega) ?_ | refine N.forkNo (by rw [decide_eq_false_iff_not]; omega) ?_ | refine N.obl trivial ?_ | exact N.true | fail_if_success skip)
        refine N.go ?_
        refine N.next (i + 1) ⟨by show i + 1 ≤ nl b; omega, by omega⟩ ?_
        repeat (refine N.go ?_; first | exact N.true | with_reducible refine N.obl rfl ?_ | with_reducible refine N.obl (ChunkLe.refl _) ?_ | refine N.obl (int_i64 (by rw [IntWalk.i64_in _ (by omega)]; rfl)) ?_ | refine N.obl (inteq (by rw [i64n _ (by omega) (by omega)]; omega)) ?_ | refine N.obl (inteq (by rw [ev0, fd32, m2, hz]; rfl)) ?_ |  fail_if_success skip)
    · obtain rfl : i = nl b := by omega
      have ha := nl_self b
      have hb := nl_le.1 (show nl a ≤ nl b by omega)
      have hc : ((b % bw (nl b) + a % bw (nl b)) / bw (nl b)) = lm (a + b) (nl b) := by
        rw [Nat.mod_eq_of_lt ha, Nat.mod_eq_of_lt hb, hcm]
        unfold lm
        rw [Nat.mod_eq_of_lt ((Nat.div_lt_iff_lt_mul (bw_pos _)).2 (by rw [Nat.mul_comm, ← bw_succ]; exact hs))]
      have hlt := lm_lt (a + b) (nl b)
      have he : (a + b) % bw (nl b + 1) = a + b := Nat.mod_eq_of_lt hs
      repeat' (refine N.go ?_; first | with_reducible refine N.obl (by decide) ?_ | with_reducible refine N.obl (flat_wi _ _ _) ?_ | with_reducible refine N.obl (flat_lim _ _) ?_ | with_reducible refine N.eq ?_ | with_reducible refine N.obl rfl ?_ | with_reducible refine N.obl ⟨by kernel_rfl, by kernel_rfl⟩ ?_ | with_reducible refine N.alt ?_ | with_reducible refine N.forkT ?_ | with_reducible refine N.forkF ?_ | refine N.idx (nl b) 1 rfl (by omega) ?_ | refine N.store _ (writes_next rfl (by omega) (by rw [w32, hc]; omega)) ?_ | refine N.call (cTrim (a + b) (nl b + 1) (nl b + 1) _ _ _ (by rfl) (by rw [he]; exact isNum _ _ _) (by omega) (by omega) hs) ?_ | refine N.obl (re_sl (by rfl) rfl) ?_ | refine N.obl ⟨⟨by show 2 ≤ 6; decide, post_num (by rfl) rfl (by rw [he]; exact isNum _ _ _)⟩, trivial⟩ ?_ | refine N.forkNo (by decide) ?_ | refine N.forkYes (by decide) ?_ | refine N.forkYes (by rw [decide_eq_true_eq]; omega) ?_ | refine N.forkNo (by rw [decide_eq_false_iff_not]; omega) ?_ | refine N.obl trivial ?_ | exact N.true | fail_if_success skip)
theorem zX_selfish : Selfish zX := fun p S w h => (h.1 _).2 rfl
theorem zc_num : IsNum zC 0 0 := ⟨rfl, fun j hj => absurd hj (Nat.not_lt_zero j)⟩
theorem nl0 {a : Nat} (h : nl a = 0) : a = 0 := nl_zero_iff.1 h
theorem post_z {ix : List (Nat × Nat)} {h : List (Option Chunk)} {k : Nat} (hh : h[k]? = some (some zC)) : PostC ix h k zC := ⟨zC, hh, id, Nat.le_refl _, fun j hj => absurd hj (Nat.not_lt_zero j)⟩
set_option maxRecDepth 100000 in
set_option maxHeartbeats 2000000 in
theorem cTimes0 (a b m q i j K : Nat) (o o2 : Chunk) (h : List (Option Chunk)) (hi : h[i]? = some (some o)) (hin : IsNum o m a) (hj : h[j]? = some (some o2)) (hjn : IsNum o2 q b) (hl : nl a ≤ m) (hm : m ≤ 31) (hl2 : nl b ≤ q) (hq : q ≤ 31) (hz : nl a + nl b = 0) (h0 : h[K]? = some none) :
    CallOK Tryz.prog 91 [.slice (some ⟨i, 0, some 0⟩) (nl a) m, .slice (some ⟨j, 0, some 0⟩) (nl b) q] h (.slice (some ⟨K, 0, some 0⟩) 0 0) [(K, zC)] [i, j] := by
  have ha0 : nl a = 0 := by omega
  have hb0 : nl b = 0 := by have := nl0 ha0; omega
  refine call_res (G := tys) (fun _ : Unit => True) (fun _ => partH [⟨i, _, numC false m a, ⟨false, 0, []⟩⟩, ⟨j, _, numC false q b, ⟨false, 0, []⟩⟩]) [⟨i, _, numC false m a, ⟨false, 0, []⟩⟩, ⟨j, _, numC false q b, ⟨false, 0, []⟩⟩] [⟨K, 10, zC⟩] [.slice (some ⟨0, 0, some 0⟩) (nl a) m, .slice (some ⟨1, 0, some 0⟩) (nl b) q] tysOK mixed Tryz.func91 (by rfl) (Tryz.call91) ⟨hi, hj, trivial⟩ ⟨⟨fun h => (by cases h), Nat.le_of_eq hin.1.symm, num_re hin⟩, ⟨fun h => (by cases h), Nat.le_of_eq hjn.1.symm, num_re hjn⟩, trivial⟩ (by simp [Apart]) ⟨.inl rfl, .inl rfl, trivial⟩ ⟨⟨h0, rfl, .inr zX_selfish, by simp⟩, trivial⟩ ⟨.slice rfl, .slice rfl, trivial⟩ Opens.same (fun _ _ => ?_)
  repeat' (refine N.go ?_; first | with_reducible refine N.obl (by decide) ?_ | with_reducible refine N.obl (flat_wi _ _ _) ?_ | with_reducible refine N.obl (flat_lim _ _) ?_ | with_reducible refine N.eq ?_ | with_reducible refine N.obl rfl ?_ | with_reducible refine N.obl ⟨by kernel_rfl, by kernel_rfl⟩ ?_ | with_reducible refine N.alt ?_ | with_reducible refine N.forkT ?_ | with_reducible refine N.forkF ?_ | refine N.mk (.inr ⟨by rw [ha0, hb0]; rfl, by rw [ha0, hb0]; rfl, ?_⟩) | refine N.roll 1 ?_ | refine N.forkNo (by rw [ha0]; rfl) ?_ | refine N.call (cTrim 0 0 0 _ _ _ (by rfl) zc_num (Nat.le_refl _) (by omega) (by rw [bw_zero]; decide)) ?_ | refine N.endSame ?_ | refine N.obl (re_sl (by rfl) (by rw [nl_zero])) ?_ | refine N.obl ⟨⟨by show 2 ≤ 10; decide, post_z (by rfl)⟩, trivial⟩ ?_ | refine N.obl ⟨⟨.inl rfl, .inl rfl, trivial⟩, ⟨.inr ⟨_, by rfl, rfl⟩, trivial⟩⟩ ?_ | refine N.forkNo (by decide) ?_ | refine N.forkYes (by decide) ?_ | refine N.obl trivial ?_ | exact N.true | fail_if_success skip)
set_option maxRecDepth 100000 in
set_option maxHeartbeats 2000000 in
theorem cMinus0 (a b m q i j K : Nat) (o o2 : Chunk) (h : List (Option Chunk)) (hi : h[i]? = some (some o)) (hin : IsNum o m a) (hj : h[j]? = some (some o2)) (hjn : IsNum o2 q b) (hl : nl a ≤ m) (hm : m ≤ 31) (hl2 : nl b ≤ q) (hq : q ≤ 31) (hz : nl a = 0) (hba : b ≤ a) (h0 : h[K]? = some none) :
    CallOK Tryz.prog 102 [.slice (some ⟨i, 0, some 0⟩) (nl a) m, .slice (some ⟨j, 0, some 0⟩) (nl b) q] h (.slice (some ⟨K, 0, some 0⟩) 0 0) [(K, zC)] [i, j] := by
  have ha0 : nl a = 0 := by omega
  have hb0 : nl b = 0 := by have := nl0 ha0; have hb : b = 0 := (by omega); rw [hb, nl_zero]
  refine call_res (G := tys) (fun _ : Unit => True) (fun _ => partH [⟨i, _, numC false m a, ⟨false, 0, []⟩⟩, ⟨j, _, numC false q b, ⟨false, 0, []⟩⟩]) [⟨i, _, numC false m a, ⟨false, 0, []⟩⟩, ⟨j, _, numC false q b, ⟨false, 0, []⟩⟩] [⟨K, 6, zC⟩] [.slice (some ⟨0, 0, some 0⟩) (nl a) m, .slice (some ⟨1, 0, some 0⟩) (nl b) q] tysOK mixed Tryz.func102 (by rfl) (Tryz.call102) ⟨hi, hj, trivial⟩ ⟨⟨fun h => (by cases h), Nat.le_of_eq hin.1.symm, num_re hin⟩, ⟨fun h => (by cases h), Nat.le_of_eq hjn.1.symm, num_re hjn⟩, trivial⟩ (by simp [Apart]) ⟨.inl rfl, .inl rfl, trivial⟩ ⟨⟨h0, rfl, .inr zX_selfish, by simp⟩, trivial⟩ ⟨.slice rfl, .slice rfl, trivial⟩ Opens.same (fun _ _ => ?_)
  repeat' (refine N.go ?_; first | with_reducible refine N.obl (by decide) ?_ | with_reducible refine N.obl (flat_wi _ _ _) ?_ | with_reducible refine N.obl (flat_lim _ _) ?_ | with_reducible refine N.eq ?_ | with_reducible refine N.obl rfl ?_ | with_reducible refine N.obl ⟨by kernel_rfl, by kernel_rfl⟩ ?_ | with_reducible refine N.alt ?_ | with_reducible refine N.forkT ?_ | with_reducible refine N.forkF ?_ | refine N.mk (.inr ⟨by rw [ha0]; rfl, by rw [ha0]; rfl, ?_⟩) | refine N.roll 1 ?_ | refine N.forkNo (by rw [ha0]; rfl) ?_ | refine N.call (cTrim 0 0 0 _ _ _ (by rfl) zc_num (Nat.le_refl _) (by omega) (by rw [bw_zero]; decide)) ?_ | refine N.endSame ?_ | refine N.obl (re_sl (by rfl) (by rw [nl_zero])) ?_ | refine N.obl ⟨⟨by show 2 ≤ 6; decide, post_z (by rfl)⟩, trivial⟩ ?_ | refine N.obl ⟨⟨.inl rfl, .inl rfl, trivial⟩, ⟨.inr ⟨_, by rfl, rfl⟩, trivial⟩⟩ ?_ | refine N.forkNo (by decide) ?_ | refine N.forkYes (by decide) ?_ | refine N.obl trivial ?_ | exact N.true | fail_if_success skip)
end Go.Proofs.YtdnkeeedcnjofaaGreatDoor


/-
  Numbers of the document whose words lie somewhere in memory: what is known of them is kept as one stretch.
-/
set_option linter.unusedVariables false
set_option linter.unusedSimpArgs false
namespace Go.Proofs.YtdnkeeedcnjofaaGreatDoor
open Go Go.RowKit Sx

/-- A number: its words lie at a block, from a place on, with room. -/
structure Nm where
  v : Nat
  b : Nat
  o : Nat
  c : Nat
abbrev Nm.sl (e : Nm) : Value := .slice (some ⟨e.b, e.o, none⟩) (nl e.v) e.c
abbrev Nm.big (s : Bool) (e : Nm) : Value := .agg #[.bool s, .bool false, .slice (some ⟨e.b, e.o, none⟩) (nl e.v) e.c]
structure NumAt (w : World) (e : Nm) : Prop where
  lt : e.b < w.heap.size
  len : nl e.v ≤ e.c
  cap : e.c ≤ 31
  cell : ∀ j, j < e.c → w.cell? ⟨e.b, e.o + j, none⟩ = some (.int .u32 ((lm e.v j : Nat) : Int))
theorem cell_same {w w' : World} {b o : Nat} (h : w'.heap[b]? = w.heap[b]?) : w'.cell? ⟨b, o, none⟩ = w.cell? ⟨b, o, none⟩ := by
  simp only [World.cell?, h]
theorem NumAt.keep {w w' : World} {e : Nm} (h : NumAt w e) (hb : w'.heap[e.b]? = w.heap[e.b]?) : NumAt w' e := by
  refine ⟨?_, h.len, h.cap, fun j hj => (cell_same hb).trans (h.cell j hj)⟩
  have hlt := h.lt
  have : w.heap[e.b]? = some (w.heap[e.b]'hlt) := Array.getElem?_eq_getElem hlt
  rw [this] at hb
  exact (Array.getElem?_eq_some_iff.1 hb).1
theorem NumAt.below {w w' : World} {e : Nm} (h : NumAt w e) (hb : Below w.heap.size w w') : NumAt w' e := h.keep (hb.block e.b h.lt)
abbrev arX (L : List Nm) : Ext where
  inv := fun p S w => ∀ e ∈ L, S e.b ∧ NumAt w e
  keep := fun h hb e he => ⟨(h e he).1, (h e he).2.keep (hb _ (h e he).1)⟩
abbrev arC (L : List Nm) : Chunk := @Chunk.mk (arX L) true 0 []
section
variable {X : Ctx} {ρ : Nat → Nat × Nat} {h : List (Option Chunk)} {w w' : World}
theorem ar_new {K : Nat} {es : List Nm} {e0 : Nm} (H : HOK X ρ h w) (hi : h[K]? = some none) (hB : Below w.heap.size w w') (h0 : e0 ∈ es) (hes : ∀ e ∈ es, NumAt w' e ∧ w.heap.size ≤ e.b) : ∃ ρ', AgreeOn (Fil h) ρ ρ' ∧ HOK X ρ' (h.set K (some (arC es))) w' := by
  obtain ⟨ρ', h1, _, h2⟩ := H.newX hi (d := arC es) (b0 := e0.b) (S' := fun b => ∃ e ∈ es, b = e.b) rfl hB ⟨(hes e0 h0).2, (hes e0 h0).1.lt⟩ (fun b ⟨e, he, hb⟩ => by subst hb; exact ⟨(hes e he).2, (hes e he).1.lt⟩) (fun e he => ⟨⟨e, he, rfl⟩, (hes e he).1⟩)
  exact ⟨ρ', h1, h2⟩
theorem ar_more {i : Nat} {L es : List Nm} (H : HOK X ρ h w) (hi : h[i]? = some (some (arC L))) (hB : Below w.heap.size w w') (hes : ∀ e ∈ es, NumAt w' e ∧ w.heap.size ≤ e.b) : HOK X ρ (h.set i (some (arC (es ++ L)))) w' := by
  obtain ⟨S, E⟩ := H.ext
  have hin := E.inv i _ hi
  refine H.turnX E hi (d := arC (es ++ L)) (S' := fun b => S i b ∨ ∃ e ∈ es, b = e.b) id (Nat.le_refl _) (fun j hj => absurd hj (Nat.not_lt_zero j)) hB.os hB.tape hB.output hB.size (fun b hb _ => hB.block b hb) (fun b hb => ?_) (fun e he => ?_)
  · rcases hb with hb | ⟨e, he, rfl⟩
    · exact ⟨Nat.lt_of_lt_of_le (E.mine i _ b hi hb).2.1 hB.size, .inl rfl, .inl hb⟩
    · exact ⟨(hes e he).1.lt, .inl rfl, .inr (hes e he).2⟩
  · rcases List.mem_append.1 he with he | he
    · exact ⟨.inr ⟨e, he, rfl⟩, (hes e he).1⟩
    · exact ⟨.inl (hin e he).1, (hin e he).2.below hB⟩
end
/-- A slice that stands for the words of a number: known, or in a stretch. -/
inductive SrcS (h : List (Option Chunk)) (L : List Nm) : Value → Nat → Prop
  | ar {e : Nm} (he : e ∈ L) : SrcS h L (.slice (some ⟨e.b, e.o, none⟩) (nl e.v) e.c) e.v
  | ch {j v c : Nat} {o : Chunk} (hj : h[j]? = some (some o)) (hn : IsNum o c v) (hl : nl v ≤ c) (hm : c ≤ 31) : SrcS h L (.slice (some ⟨j, 0, some 0⟩) (nl v) c) v
/-- Arguments, as numbers. -/
inductive AV where
  | at_ (e : Nm)
  | bigat (s : Bool) (e : Nm)
  | pl (v : Value)
  | sl (v : Nat)
  | big (s : Bool) (v : Nat)
inductive ArgS (h : List (Option Chunk)) (L : List Nm) : Value → AV → Prop
  | at_ {e : Nm} (he : e ∈ L) : ArgS h L (.slice (some ⟨e.b, e.o, none⟩) (nl e.v) e.c) (.at_ e)
  | bigat {s : Bool} {e : Nm} (he : e ∈ L) : ArgS h L (.agg #[.bool s, .bool false, .slice (some ⟨e.b, e.o, none⟩) (nl e.v) e.c]) (.bigat s e)
  | pl {v : Value} (hp : plain2 v = true) : ArgS h L v (.pl v)
  | sl {sv : Value} {v : Nat} (s : SrcS h L sv v) : ArgS h L sv (.sl v)
  | big {b : Bool} {sv : Value} {v : Nat} (s : SrcS h L sv v) : ArgS h L (.agg #[.bool b, .bool false, sv]) (.big b v)
inductive AR (w : World) : AV → Value → Prop
  | at_ {e : Nm} (ha : NumAt w e) : AR w (.at_ e) e.sl
  | bigat {s : Bool} {e : Nm} (ha : NumAt w e) : AR w (.bigat s e) (e.big s)
  | pl {v : Value} (hp : plain2 v = true) : AR w (.pl v) v
  | sl {e : Nm} {v : Nat} (ha : NumAt w e) (hv : e.v = v) : AR w (.sl v) e.sl
  | big {s : Bool} {e : Nm} {v : Nat} (ha : NumAt w e) (hv : e.v = v) : AR w (.big s v) (e.big s)
theorem SrcS.at {X : Ctx} {ρ : Nat → Nat × Nat} {h : List (Option Chunk)} {w : World} {L : List Nm} {sv : Value} {v : Nat} (H : HOK X ρ h w) (ha : ∀ e ∈ L, NumAt w e) (s : SrcS h L sv v) :
    ∃ e : Nm, NumAt w e ∧ e.v = v ∧ den ρ sv = e.sl ∧ den0 ρ sv = e.sl ∧ den1 ρ sv = e.sl := by
  cases s with
  | ar he => rename_i e; exact ⟨e, ha e he, rfl, rfl, rfl, rfl⟩
  | ch hj hn hl hm =>
    rename_i j c o
    refine ⟨⟨v, (ρ j).1, (ρ j).2, c⟩, ⟨H.lt j o hj, hl, hm, fun k hk => ?_⟩, rfl, rfl, rfl, rfl⟩
    obtain ⟨x, hx, hd⟩ := H.cell j o hj k (by rw [hn.1]; exact hk)
    rw [hn.2 k hk] at hd
    show w.cell? ⟨(ρ j).1, (ρ j).2 + k, none⟩ = _
    rw [hx, ← hd.self]; rfl
theorem args_at {X : Ctx} {ρ : Nat → Nat × Nat} {h : List (Option Chunk)} {w : World} {L : List Nm} (H : HOK X ρ h w) (ha : ∀ e ∈ L, NumAt w e) : ∀ {vs : List Value} {qs : List AV} {xs : List Value}, All2 (ArgS h L) vs qs → All2 (Den (Fil h) ρ) vs xs → All2 (AR w) qs xs
  | [], [], [], _, _ => trivial
  | [], [], _ :: _, _, h => h.elim
  | [], _ :: _, _, h, _ => h.elim
  | _ :: _, [], _, h, _ => h.elim
  | _ :: _, _ :: _, [], _, h => h.elim
  | v :: vs, a :: qs, x :: xs, h1, h2 => by
    refine ⟨?_, args_at H ha h1.2 h2.2⟩
    have hd := h2.1.self
    cases h1.1 with
    | at_ he => rename_i e; rw [← hd]; exact .at_ (ha e he)
    | bigat he =>
      rename_i s e
      rw [den_plain (v := Nm.big s e) rfl] at hd
      rw [← hd]; exact .bigat (ha e he)
    | pl hp => rw [den_plain hp] at hd; rw [← hd]; exact .pl hp
    | sl s =>
      obtain ⟨e, h1, h2, h3, _⟩ := s.at H ha
      rw [h3] at hd; rw [← hd]; exact .sl h1 h2
    | big s =>
      rename_i b sv u
      obtain ⟨e, h1, h2, _, _, h3⟩ := s.at H ha
      have e1 : den ρ (.agg #[.bool b, .bool false, sv]) = .agg #[den1 ρ (.bool b), den1 ρ (.bool false), den1 ρ sv] := by
        simp only [den, den2, List.map_toArray, List.map_cons, List.map_nil]
      rw [e1, h3] at hd
      rw [← hd]; exact .big h1 h2
section
variable {P : Program} {G : Tys}
/-- A callee's contract by numbers, as a contract that adds what it makes to what is known. -/
theorem call_arM {g : FuncId} {vs : List Value} {qs : List AV} {h : List (Option Chunk)} {L : List Nm} {α : Type} (i : Nat) (hi : h[i]? = some (some (arC L))) (ok : α → Prop) (V : α → Value) (es : α → List Nm) (hr : ∀ xs w, (callFunc g xs).run P w = .ok (.enter g xs) w) (ha : All2 (ArgS h L) vs qs) (hV : ∀ κ, ok κ → plain3 (V κ) = true)
    (hc : ∀ w xs, All2 (AR w) qs xs → Calls P g ⟨xs⟩ w fun e w' => ∃ κ, ok κ ∧ e = .returned (V κ) ∧ Below w.heap.size w w' ∧ ∀ n ∈ es κ, NumAt w' n ∧ w.heap.size ≤ n.b) :
    CallAll P g vs h fun v ms => ∃ κ, ok κ ∧ v = V κ ∧ ms = [(i, arC (es κ ++ L))] := fun X ρ w xs H hx => by
  obtain ⟨S, E⟩ := H.ext
  have hL : ∀ e ∈ L, NumAt w e := fun e he => ((E.inv i _ hi) e he).2
  refine .inr ⟨hr _ w, (hc w xs (args_at H hL ha hx)).mono ?_⟩
  rintro e w' ⟨κ, hok, rfl, hB, hes⟩
  exact ⟨V κ, rfl, V κ, _, ρ, ⟨κ, hok, rfl, rfl⟩, AgreeOn.refl _ _, ar_more H hi hB hes, fun r _ => den_plain3 (hV κ hok) r⟩
/-- The same where nothing is known yet. -/
theorem call_arN {g : FuncId} {vs : List Value} {qs : List AV} {h : List (Option Chunk)} {α : Type} (K : Nat) (hi : h[K]? = some none) (ok : α → Prop) (V : α → Value) (es : α → List Nm) (hr : ∀ xs w, (callFunc g xs).run P w = .ok (.enter g xs) w) (ha : All2 (ArgS h []) vs qs) (hV : ∀ κ, ok κ → plain3 (V κ) = true) (h0 : ∀ κ, ok κ → es κ ≠ [])
    (hc : ∀ w xs, All2 (AR w) qs xs → Calls P g ⟨xs⟩ w fun e w' => ∃ κ, ok κ ∧ e = .returned (V κ) ∧ Below w.heap.size w w' ∧ ∀ n ∈ es κ, NumAt w' n ∧ w.heap.size ≤ n.b) :
    CallAll P g vs h fun v ms => ∃ κ, ok κ ∧ v = V κ ∧ ms = [(K, arC (es κ))] := fun X ρ w xs H hx => by
  refine .inr ⟨hr _ w, (hc w xs (args_at H (fun e he => by cases he) ha hx)).mono ?_⟩
  rintro e w' ⟨κ, hok, rfl, hB, hes⟩
  obtain ⟨e0, he0⟩ := List.exists_mem_of_ne_nil _ (h0 κ hok)
  obtain ⟨ρ', h1, h2⟩ := ar_new H hi hB he0 hes
  exact ⟨V κ, rfl, V κ, _, ρ', ⟨κ, hok, rfl, rfl⟩, h1, h2, fun r _ => den_plain3 (hV κ hok) r⟩
/-- A callee that makes nothing that is kept: it answers a plain value. -/
theorem call_arP {g : FuncId} {vs : List Value} {qs : List AV} {h : List (Option Chunk)} {L : List Nm} {V : Value} (rh : List Nat) (i : Nat) (hi : h[i]? = some (some (arC L)) ∨ L = []) (hrh : i ∈ rh ∨ L = []) (hr : ∀ xs w, (callFunc g xs).run P w = .ok (.enter g xs) w) (ha : ∀ h₂ : List (Option Chunk), (∀ i ∈ rh, h₂[i]? = h[i]?) → All2 (ArgS h₂ L) vs qs) (hV : plain3 V = true)
    (hc : ∀ w xs, All2 (AR w) qs xs → Calls P g ⟨xs⟩ w fun e w' => e = .returned V ∧ Below w.heap.size w w') :
    CallOK P g vs h V [] rh := fun h₂ hrr _ X ρ w xs H hx => by
  obtain ⟨S, E⟩ := H.ext
  have hL : ∀ e ∈ L, NumAt w e := fun e he => by
    rcases hi with hi | hi
    · rcases hrh with h1 | h1
      · exact ((E.inv i _ ((hrr i h1).trans hi)) e he).2
      · rw [h1] at he; cases he
    · rw [hi] at he; cases he
  refine .inr ⟨hr _ w, (hc w xs (args_at H hL (ha h₂ hrr) hx)).mono ?_⟩
  rintro e w' ⟨rfl, hB⟩
  exact ⟨V, rfl, ρ, AgreeOn.refl _ _, H.frame hB, fun r _ => den_plain3 hV r⟩

/-! ### A contract by stretches, as one by numbers -/
def numH (es : List Nm) : List (Option Chunk) := es.map fun e => some (numC false e.c e.v)
def numρ (es : List Nm) (k : Nat) : Nat × Nat := match es[k]? with
  | some e => (e.b, e.o)
  | none => (0, 0)
theorem num_hok {es : List Nm} {w : World} (m : Nat) (he : ∀ e ∈ es, NumAt w e) : HOK ⟨w, fun _ => False, 0, numρ es⟩ (numρ es) (numH es ++ List.replicate m none) w := by
  have getP : ∀ (k : Nat) (c : Chunk), (numH es ++ List.replicate m none)[k]? = some (some c) → ∃ e : Nm, es[k]? = some e ∧ numC false e.c e.v = c := fun k c hk => by
    have hlen : (numH es).length = es.length := by simp [numH]
    rcases Nat.lt_or_ge k es.length with hlt | hge
    · rw [List.getElem?_append_left (by omega)] at hk
      simp only [numH, List.getElem?_map] at hk
      cases e : es[k]? with
      | none => rw [e] at hk; cases hk
      | some s => rw [e] at hk; exact ⟨s, rfl, by simpa using hk⟩
    · rw [List.getElem?_append_right (by omega), List.getElem?_replicate] at hk
      split at hk
      · cases hk
      · cases hk
  have hρ : ∀ (k : Nat) (e : Nm), es[k]? = some e → numρ es k = (e.b, e.o) := fun k e hk => by unfold numρ; rw [hk]
  refine ⟨Evo.refl _ _, fun i hi => absurd hi (by simp), fun k c hk => ?_, fun k c hk j hj => ?_, fun k c hk ho => ?_, fun k c l d hk ho => ?_, ExtOK.nil fun k c hk => ?_⟩
  · obtain ⟨e, hs, rfl⟩ := getP k c hk
    rw [hρ k e hs]; exact (he e (List.mem_of_getElem? hs)).lt
  · obtain ⟨e, hs, rfl⟩ := getP k c hk
    have hj : j < e.c := hj
    rw [hρ k e hs, seg_cell hj]
    exact ⟨_, (he e (List.mem_of_getElem? hs)).cell j hj, Den1.plain rfl⟩
  · obtain ⟨e, hs, rfl⟩ := getP k c hk; cases ho
  · obtain ⟨e, hs, rfl⟩ := getP k c hk; cases ho
  · obtain ⟨e, hs, rfl⟩ := getP k c hk; rfl
inductive NArg (es : List Nm) : Value → Value → Prop
  | pl {v : Value} (hp : plain2 v = true) : NArg es v v
  | sl {k : Nat} {e : Nm} (h : es[k]? = some e) : NArg es (.slice (some ⟨k, 0, some 0⟩) (nl e.v) e.c) e.sl
  | big {k : Nat} {e : Nm} {s : Bool} (h : es[k]? = some e) : NArg es (.agg #[.bool s, .bool false, .slice (some ⟨k, 0, some 0⟩) (nl e.v) e.c]) (e.big s)
theorem narg_den {es : List Nm} {m : Nat} : ∀ {vs xs : List Value}, All2 (NArg es) vs xs → All2 (Den (Fil (numH es ++ List.replicate m none)) (numρ es)) vs xs
  | [], [], _ => trivial
  | [], _ :: _, h => h.elim
  | _ :: _, [], h => h.elim
  | v :: vs, x :: xs, h => by
    refine ⟨?_, narg_den h.2⟩
    have fil : ∀ (k : Nat) (e : Nm), es[k]? = some e → Fil (numH es ++ List.replicate m none) k := fun k e hk => ⟨numC false e.c e.v, by
      rw [List.getElem?_append_left (by simp [numH]; exact (List.getElem?_eq_some_iff.1 hk).1)]
      simp only [numH, List.getElem?_map, hk]; rfl⟩
    have hρ : ∀ (k : Nat) (e : Nm), es[k]? = some e → numρ es k = (e.b, e.o) := fun k e hk => by unfold numρ; rw [hk]
    cases h.1 with
    | pl hp => exact Den.plain hp
    | sl hk =>
      intro r hr
      have e1 := hr _ (fil _ _ hk)
      rw [hρ _ _ hk] at e1
      simp only [den, den2, den1, den0, denA, e1]; rfl
    | big hk =>
      intro r hr
      have e1 := hr _ (fil _ _ hk)
      rw [hρ _ _ hk] at e1
      simp only [den, den2, List.map_toArray, List.map_cons, List.map_nil, den1, den0, denA, e1]; rfl
/-- A contract by stretches that makes one more number. -/
theorem num_new {g : FuncId} {vs xs : List Value} {es : List Nm} {m v : Nat} {V : Nat → Value} {rh : List Nat} {w : World} (hr : ∀ xs w, (callFunc g xs).run P w = .ok (.enter g xs) w) (he : ∀ e ∈ es, NumAt w e) (hx : All2 (NArg es) vs xs) (hm : 0 < m ∧ m ≤ 31) (hl : nl v ≤ m) (W : Nm → Value)
    (hW : ∀ (r : Nat → Nat × Nat), den r (V es.length) = W ⟨v, (r es.length).1, (r es.length).2, m⟩)
    (hc : CallOK P g vs (numH es ++ [none]) (V es.length) [(es.length, numC true m v)] rh) : Calls P g ⟨xs⟩ w fun e w' => ∃ κ : Nm, κ.v = v ∧ e = .returned (W κ) ∧ Below w.heap.size w w' ∧ NumAt w' κ ∧ w.heap.size ≤ κ.b := by
  rcases hc _ (fun _ _ => rfl) (fun _ _ => rfl) _ _ w xs (num_hok 1 he) (narg_den (m := 1) hx) with ⟨x, w', hrun, _⟩ | ⟨_, hcl⟩
  · rw [hr] at hrun; cases hrun
  refine hcl.mono ?_
  rintro e w' ⟨x, rfl, ρ', _, H, hd⟩
  have hk : (modH (numH es ++ [none]) [(es.length, numC true m v)])[es.length]? = some (some (numC true m v)) := by
    show ((numH es ++ [none]).set es.length _)[es.length]? = _
    rw [List.getElem?_set_self (by simp [numH])]
  refine ⟨⟨v, (ρ' es.length).1, (ρ' es.length).2, m⟩, rfl, ?_, H.evo.below, ⟨H.lt _ _ hk, hl, hm.2, fun j hj => ?_⟩, ?_⟩
  · rw [← hW ρ', hd.self]
  · obtain ⟨y, hy, hyd⟩ := H.cell _ _ hk j hj
    rw [seg_cell hj] at hyd
    rw [hy, ← hyd.self]; rfl
  · rcases (H.own _ _ hk rfl 0 hm.1).2 with h1 | h1
    · exact h1
    · exact h1.elim
/-- A contract by stretches that makes nothing: the answer is told by where the arguments lie. -/
theorem num_same {g : FuncId} {vs xs : List Value} {es : List Nm} {V : Value} {rh : List Nat} {w : World} (hr : ∀ xs w, (callFunc g xs).run P w = .ok (.enter g xs) w) (he : ∀ e ∈ es, NumAt w e) (hx : All2 (NArg es) vs xs) (W : Value)
    (hW : All2 (NArg es) [V] [W]) (hc : CallOK P g vs (numH es ++ []) V [] rh) : Calls P g ⟨xs⟩ w fun e w' => e = .returned W ∧ Below w.heap.size w w' := by
  rcases hc _ (fun _ _ => rfl) (fun _ _ => rfl) _ _ w xs (num_hok 0 he) (narg_den (m := 0) hx) with ⟨x, w', hrun, _⟩ | ⟨_, hcl⟩
  · rw [hr] at hrun; cases hrun
  refine hcl.mono ?_
  rintro e w' ⟨x, rfl, ρ', ha, H, hd⟩
  refine ⟨?_, H.evo.below⟩
  have h1 := (narg_den (m := 0) hW).1 ρ' ha
  rw [← h1, hd.self]
/-- A slice without elements that is new. -/
theorem num_new0 {g : FuncId} {vs xs : List Value} {es : List Nm} {V : Nat → Value} {rh : List Nat} {w : World} (hr : ∀ xs w, (callFunc g xs).run P w = .ok (.enter g xs) w) (he : ∀ e ∈ es, NumAt w e) (hx : All2 (NArg es) vs xs) (W : Nm → Value)
    (hW : ∀ (r : Nat → Nat × Nat), den r (V es.length) = W ⟨0, (r es.length).1, (r es.length).2, 0⟩)
    (hc : CallOK P g vs (numH es ++ [none]) (V es.length) [(es.length, zC)] rh) : Calls P g ⟨xs⟩ w fun e w' => ∃ κ : Nm, κ.v = 0 ∧ e = .returned (W κ) ∧ Below w.heap.size w w' ∧ NumAt w' κ ∧ w.heap.size ≤ κ.b := by
  rcases hc _ (fun _ _ => rfl) (fun _ _ => rfl) _ _ w xs (num_hok 1 he) (narg_den (m := 1) hx) with ⟨x, w', hrun, _⟩ | ⟨_, hcl⟩
  · rw [hr] at hrun; cases hrun
  refine hcl.mono ?_
  rintro e w' ⟨x, rfl, ρ', _, H, hd⟩
  have hk : (modH (numH es ++ [none]) [(es.length, zC)])[es.length]? = some (some zC) := by
    show ((numH es ++ [none]).set es.length _)[es.length]? = _
    rw [List.getElem?_set_self (by simp [numH])]
  obtain ⟨S, E⟩ := H.ext
  obtain ⟨hS, _⟩ := E.inv _ _ hk
  refine ⟨⟨0, (ρ' es.length).1, (ρ' es.length).2, 0⟩, rfl, ?_, H.evo.below, ⟨H.lt _ _ hk, by rw [nl_zero]; exact Nat.le_refl _, by show (0 : Nat) ≤ 31; omega, fun j hj => absurd hj (Nat.not_lt_zero j)⟩, ?_⟩
  · rw [← hW ρ', hd.self]
  · rcases (E.mine _ _ _ hk ((hS _).2 rfl)).2.2 with h1 | h1
    · exact h1
    · exact h1.1.elim
theorem N_callM {g : FuncId} {vs : List Value} {h : List (Option Chunk)} {slot : Nat} {C : List Nat → Prop} {K : List Nat → Value → List (Nat × Chunk) → Prop} (hs : List Nat) (R : Value → List (Nat × Chunk) → Prop) (hC : C hs) (hc : ∀ h₂ : List (Option Chunk), (∀ q ∈ hs, h₂[q]? = h[q]?) → CallAll P g vs h₂ R) (k : ∀ v ms, R v ms → (∀ q ∈ ms.map (·.1), q ∈ hs) ∧ K hs v ms) : N (CallM P g vs h slot C K) := N.mk ⟨hs, R, hC, hc, k⟩
/-- What a callee makes: one number more. -/
def Mk (P : Program) (g : FuncId) (xs : List Value) (w : World) (v : Nat) (W : Nm → Value) : Prop := Calls P g ⟨xs⟩ w fun e w' => ∃ κ : Nm, κ.v = v ∧ e = .returned (W κ) ∧ Below w.heap.size w w' ∧ NumAt w' κ ∧ w.heap.size ≤ κ.b
theorem mk_arM {g : FuncId} {vs : List Value} {qs : List AV} {h : List (Option Chunk)} {L : List Nm} (i : Nat) (hi : h[i]? = some (some (arC L))) (v : Nat) (W : Nm → Value) (hr : ∀ xs w, (callFunc g xs).run P w = .ok (.enter g xs) w) (ha : All2 (ArgS h L) vs qs) (hW : ∀ κ : Nm, plain3 (W κ) = true) (hc : ∀ w xs, All2 (AR w) qs xs → Mk P g xs w v W) :
    CallAll P g vs h fun x ms => ∃ κ : Nm, κ.v = v ∧ x = W κ ∧ ms = [(i, arC (κ :: L))] :=
  call_arM i hi (fun κ : Nm => κ.v = v) W (fun κ => [κ]) hr ha (fun κ _ => hW κ) fun w xs hx => (hc w xs hx).mono fun e w' ⟨κ, h1, h2, h3, h4, h5⟩ => ⟨κ, h1, h2, h3, fun n hn => by rw [List.mem_singleton.1 hn]; exact ⟨h4, h5⟩⟩
theorem mk_arN {g : FuncId} {vs : List Value} {qs : List AV} {h : List (Option Chunk)} (K : Nat) (hi : h[K]? = some none) (v : Nat) (W : Nm → Value) (hr : ∀ xs w, (callFunc g xs).run P w = .ok (.enter g xs) w) (ha : All2 (ArgS h []) vs qs) (hW : ∀ κ : Nm, plain3 (W κ) = true) (hc : ∀ w xs, All2 (AR w) qs xs → Mk P g xs w v W) :
    CallAll P g vs h fun x ms => ∃ κ : Nm, κ.v = v ∧ x = W κ ∧ ms = [(K, arC [κ])] :=
  call_arN K hi (fun κ : Nm => κ.v = v) W (fun κ => [κ]) hr ha (fun κ _ => hW κ) (fun _ _ => by simp) fun w xs hx => (hc w xs hx).mono fun e w' ⟨κ, h1, h2, h3, h4, h5⟩ => ⟨κ, h1, h2, h3, fun n hn => by rw [List.mem_singleton.1 hn]; exact ⟨h4, h5⟩⟩
/-- The end of such a callee's walk. -/
def EndM (h : List (Option Chunk)) (x : Value) (v : Nat) (W : Nm → Value) : Prop := ∃ (κ : Nm) (i : Nat) (L : List Nm), κ.v = v ∧ x = W κ ∧ h[i]? = some (some (arC L)) ∧ κ ∈ L
theorem N.endM {h : List (Option Chunk)} {x : Value} {v : Nat} {W : Nm → Value} (κ : Nm) (i : Nat) {L : List Nm} (h1 : κ.v = v) (h2 : x = W κ) (h3 : h[i]? = some (some (arC L))) (h4 : κ ∈ L) : N (EndM h x v W) := N.mk ⟨κ, i, L, h1, h2, h3, h4⟩
theorem calls_nums {f : FuncId} {fn : Func} {c : Code} {vs xs : List Value} {es : List Nm} {v : Nat} {W : Nm → Value} (w : World) (hG : TysOK P G) (hm : P.follows .mixedOrders = true) (hf : P.funcs[f]? = some fn) (hb : fn.body = some c) (he : ∀ e ∈ es, NumAt w e) (hx : All2 (NArg es) vs xs) (hW : ∀ κ : Nm, plain3 (W κ) = true)
    (hwp : initK vs fn.ntmps fun t => wpC P G 0 c (bodyQ P G fn fun x st => N (EndM st.h x v W)) ⟨t, numH es⟩) : Mk P f xs w v W := by
  have H := num_hok (w := w) 0 he
  have hd := narg_den (m := 0) hx
  simp only [List.replicate_zero, List.append_nil] at H hd
  refine (calls_sx (args := ⟨xs⟩) hG hm hf hb H hd hwp).mono ?_
  rintro e w' ⟨ρ', x, st, y, rfl, H', hdx, hq⟩
  obtain ⟨κ, i, L, h1, h2, h3, h4⟩ := hq.out
  obtain ⟨S, E⟩ := H'.ext
  obtain ⟨g1, g2⟩ := E.inv i _ h3 κ h4
  refine ⟨κ, h1, ?_, H'.evo.below, g2, ?_⟩
  · rw [← hdx.self, h2, den_plain3 (hW κ)]
  · rcases (E.mine _ _ _ h3 g1).2.2 with h5 | h5
    · exact h5
    · exact h5.1.elim
/-- A callee of numbers that answers a plain value. -/
theorem calls_numsP {f : FuncId} {fn : Func} {c : Code} {vs xs : List Value} {es : List Nm} {V : Value} (w : World) (hG : TysOK P G) (hm : P.follows .mixedOrders = true) (hf : P.funcs[f]? = some fn) (hb : fn.body = some c) (he : ∀ e ∈ es, NumAt w e) (hx : All2 (NArg es) vs xs) (hV : plain3 V = true)
    (hwp : initK vs fn.ntmps fun t => wpC P G 0 c (bodyQ P G fn fun x _ => N (x = V)) ⟨t, numH es⟩) : Calls P f ⟨xs⟩ w fun e w' => e = .returned V ∧ Below w.heap.size w w' := by
  have H := num_hok (w := w) 0 he
  have hd := narg_den (m := 0) hx
  simp only [List.replicate_zero, List.append_nil] at H hd
  refine (calls_sx (args := ⟨xs⟩) hG hm hf hb H hd hwp).mono ?_
  rintro e w' ⟨ρ', x, st, y, rfl, H', hdx, hq⟩
  have hq := hq.out
  subst hq
  exact ⟨by rw [← hdx.self, den_plain3 hV], H'.evo.below⟩
end
end Go.Proofs.YtdnkeeedcnjofaaGreatDoor


/-
  The document's numbers, wherever their words lie: Of, Mul, Add, Neg, Sub, det, Det, Sign.
-/
set_option linter.unusedVariables false
set_option linter.unusedSimpArgs false
namespace Go.Proofs.YtdnkeeedcnjofaaGreatDoor
open Go Go.RowKit Sx

abbrev bz (z : Int) : AV := .big (decide (z < 0)) z.natAbs
abbrev bzW (z : Int) (κ : Nm) : Value := .agg #[.bool (decide (z < 0)), .bool false, .slice (some ⟨κ.b, κ.o, none⟩) (nl κ.v) κ.c]
theorem ar_sl2 {w : World} {a b : Nat} {xs : List Value} (hx : All2 (AR w) [.sl a, .sl b] xs) : ∃ e e' : Nm, xs = [e.sl, e'.sl] ∧ NumAt w e ∧ e.v = a ∧ NumAt w e' ∧ e'.v = b := by
  rcases xs with _ | ⟨x, _ | ⟨y, _ | ⟨z, xs⟩⟩⟩ <;> first | exact hx.elim | exact hx.2.elim | exact hx.2.2.elim | skip
  obtain ⟨h1, h2, _⟩ := hx
  cases h1 with
  | sl a1 v1 => cases h2 with
    | sl a2 v2 => exact ⟨_, _, rfl, a1, v1, a2, v2⟩
theorem ar_big1 {w : World} {s : Bool} {a : Nat} {xs : List Value} (hx : All2 (AR w) [.big s a] xs) : ∃ e : Nm, xs = [e.big s] ∧ NumAt w e ∧ e.v = a := by
  rcases xs with _ | ⟨x, _ | ⟨y, xs⟩⟩ <;> first | exact hx.elim | exact hx.2.elim | skip
  obtain ⟨h1, _⟩ := hx
  cases h1 with
  | big a1 v1 => exact ⟨_, rfl, a1, v1⟩
theorem ar_big2 {w : World} {s u : Bool} {a b : Nat} {xs : List Value} (hx : All2 (AR w) [.big s a, .big u b] xs) : ∃ e e' : Nm, xs = [e.big s, e'.big u] ∧ NumAt w e ∧ e.v = a ∧ NumAt w e' ∧ e'.v = b := by
  rcases xs with _ | ⟨x, _ | ⟨y, _ | ⟨z, xs⟩⟩⟩ <;> first | exact hx.elim | exact hx.2.elim | exact hx.2.2.elim | skip
  obtain ⟨h1, h2, _⟩ := hx
  cases h1 with
  | big a1 v1 => cases h2 with
    | big a2 v2 => exact ⟨_, _, rfl, a1, v1, a2, v2⟩
theorem ar_big3 {w : World} {s u r : Bool} {a b c : Nat} {xs : List Value} (hx : All2 (AR w) [.big s a, .big u b, .big r c] xs) : ∃ e e' e'' : Nm, xs = [e.big s, e'.big u, e''.big r] ∧ NumAt w e ∧ e.v = a ∧ NumAt w e' ∧ e'.v = b ∧ NumAt w e'' ∧ e''.v = c := by
  rcases xs with _ | ⟨x, _ | ⟨y, _ | ⟨z, _ | ⟨z', xs⟩⟩⟩⟩ <;> first | exact hx.elim | exact hx.2.elim | exact hx.2.2.elim | exact hx.2.2.2.elim | skip
  obtain ⟨h1, h2, h3, _⟩ := hx
  cases h1 with
  | big a1 v1 => cases h2 with
    | big a2 v2 => cases h3 with
      | big a3 v3 => exact ⟨_, _, _, rfl, a1, v1, a2, v2, a3, v3⟩
theorem ar_pl1 {w : World} {v : Value} {xs : List Value} (hx : All2 (AR w) [.pl v] xs) : xs = [v] := by
  rcases xs with _ | ⟨x, _ | ⟨y, xs⟩⟩ <;> first | exact hx.elim | exact hx.2.elim | skip
  obtain ⟨h1, _⟩ := hx
  cases h1; rfl
theorem two_at {w : World} {e e' : Nm} (h : NumAt w e) (h' : NumAt w e') : ∀ x ∈ [e, e'], NumAt w x := fun x hx => by
  rcases List.mem_cons.1 hx with rfl | hx
  · exact h
  · rw [List.mem_singleton.1 hx]; exact h'
theorem one_at {w : World} {e : Nm} (h : NumAt w e) : ∀ x ∈ [e], NumAt w x := fun x hx => by rw [List.mem_singleton.1 hx]; exact h
theorem three_at {w : World} {e e' e'' : Nm} (h : NumAt w e) (h' : NumAt w e') (h'' : NumAt w e'') : ∀ x ∈ [e, e', e''], NumAt w x := fun x hx => by
  rcases List.mem_cons.1 hx with rfl | hx
  · exact h
  · exact two_at h' h'' x hx
theorem wTimes (a b : Nat) (hb : nl a + nl b ≤ 31) (w : World) (xs : List Value) (hx : All2 (AR w) [.sl a, .sl b] xs) : Mk Tryz.prog 91 xs w (a * b) Nm.sl := by
  obtain ⟨e, e', rfl, h1, v1, h2, v2⟩ := ar_sl2 hx
  subst v1 v2
  by_cases hz : nl e.v + nl e'.v = 0
  · have e0 : e.v * e'.v = 0 := by rw [nl0 (show nl e.v = 0 by omega)]; simp
    rw [e0]
    exact num_new0 (V := fun K => .slice (some ⟨K, 0, some 0⟩) 0 0) (es := [e, e']) (Tryz.call91) (two_at h1 h2) (vs := [.slice (some ⟨0, 0, some 0⟩) (nl e.v) e.c, .slice (some ⟨1, 0, some 0⟩) (nl e'.v) e'.c]) (xs := [e.sl, e'.sl]) ⟨.sl rfl, .sl rfl, trivial⟩ Nm.sl (fun r => by show _ = Value.slice _ (nl 0) 0; rw [nl_zero]; rfl) (cTimes0 e.v e'.v e.c e'.c 0 1 2 _ _ _ rfl (isNum _ _ _) rfl (isNum _ _ _) h1.len h1.cap h2.len h2.cap hz rfl)
  · exact num_new (V := fun K => .slice (some ⟨K, 0, some 0⟩) (nl (e.v * e'.v)) (nl e.v + nl e'.v)) (es := [e, e']) (Tryz.call91) (two_at h1 h2) (vs := [.slice (some ⟨0, 0, some 0⟩) (nl e.v) e.c, .slice (some ⟨1, 0, some 0⟩) (nl e'.v) e'.c]) (xs := [e.sl, e'.sl]) ⟨.sl rfl, .sl rfl, trivial⟩ ⟨by omega, by omega⟩ (nl_le.2 (mul_nl3 _ _)) Nm.sl (fun r => rfl) (cTimesN e.v e'.v e.c e'.c 0 1 2 _ _ _ rfl (isNum _ _ _) rfl (isNum _ _ _) h1.len h1.cap h2.len h2.cap (by omega) rfl)
theorem wMinus (a b : Nat) (hba : b ≤ a) (w : World) (xs : List Value) (hx : All2 (AR w) [.sl a, .sl b] xs) : Mk Tryz.prog 102 xs w (a - b) Nm.sl := by
  obtain ⟨e, e', rfl, h1, v1, h2, v2⟩ := ar_sl2 hx
  subst v1 v2
  by_cases hz : nl e.v = 0
  · have e0 : e.v - e'.v = 0 := by rw [nl0 (show nl e.v = 0 by omega)]; simp
    rw [e0]
    exact num_new0 (V := fun K => .slice (some ⟨K, 0, some 0⟩) 0 0) (es := [e, e']) (Tryz.call102) (two_at h1 h2) (vs := [.slice (some ⟨0, 0, some 0⟩) (nl e.v) e.c, .slice (some ⟨1, 0, some 0⟩) (nl e'.v) e'.c]) (xs := [e.sl, e'.sl]) ⟨.sl rfl, .sl rfl, trivial⟩ Nm.sl (fun r => by show _ = Value.slice _ (nl 0) 0; rw [nl_zero]; rfl) (cMinus0 e.v e'.v e.c e'.c 0 1 2 _ _ _ rfl (isNum _ _ _) rfl (isNum _ _ _) h1.len h1.cap h2.len h2.cap hz hba rfl)
  · have hl := h1.len
    have hc := h1.cap
    exact num_new (V := fun K => .slice (some ⟨K, 0, some 0⟩) (nl (e.v - e'.v)) (nl e.v)) (es := [e, e']) (Tryz.call102) (two_at h1 h2) (vs := [.slice (some ⟨0, 0, some 0⟩) (nl e.v) e.c, .slice (some ⟨1, 0, some 0⟩) (nl e'.v) e'.c]) (xs := [e.sl, e'.sl]) ⟨.sl rfl, .sl rfl, trivial⟩ ⟨by omega, by omega⟩ (nl_le.2 (Nat.lt_of_le_of_lt (Nat.sub_le _ _) (nl_self _))) Nm.sl (fun r => rfl) (cMinus e.v e'.v e.c e'.c 0 1 2 _ _ _ rfl (isNum _ _ _) rfl (isNum _ _ _) h1.len h1.cap h2.len h2.cap hba (by omega) rfl)
theorem wPlus (a b : Nat) (ha : nl a ≤ 30) (hb : nl b ≤ 30) (w : World) (xs : List Value) (hx : All2 (AR w) [.sl a, .sl b] xs) : Mk Tryz.prog 100 xs w (a + b) Nm.sl := by
  obtain ⟨e, e', rfl, h1, v1, h2, v2⟩ := ar_sl2 hx
  subst v1 v2
  by_cases hz : nl e.v < nl e'.v
  · exact num_new (V := fun K => .slice (some ⟨K, 0, some 0⟩) (nl (e.v + e'.v)) (nl e'.v + 1)) (es := [e, e']) (Tryz.call100) (two_at h1 h2) (vs := [.slice (some ⟨0, 0, some 0⟩) (nl e.v) e.c, .slice (some ⟨1, 0, some 0⟩) (nl e'.v) e'.c]) (xs := [e.sl, e'.sl]) ⟨.sl rfl, .sl rfl, trivial⟩ ⟨by omega, by omega⟩ (nl_le.2 (by rw [bw_succ]; have q1 := nl_self e.v; have q2 := nl_self e'.v; have q3 := bw_mono (show nl e.v ≤ nl e'.v by omega); omega)) Nm.sl (fun r => rfl) (cPlusB e.v e'.v e.c e'.c 0 1 2 _ _ _ rfl (isNum _ _ _) rfl (isNum _ _ _) h1.len h1.cap h2.len h2.cap hz rfl)
  · exact num_new (V := fun K => .slice (some ⟨K, 0, some 0⟩) (nl (e.v + e'.v)) (nl e.v + 1)) (es := [e, e']) (Tryz.call100) (two_at h1 h2) (vs := [.slice (some ⟨0, 0, some 0⟩) (nl e.v) e.c, .slice (some ⟨1, 0, some 0⟩) (nl e'.v) e'.c]) (xs := [e.sl, e'.sl]) ⟨.sl rfl, .sl rfl, trivial⟩ ⟨by omega, by omega⟩ (nl_le.2 (by rw [bw_succ]; have q1 := nl_self e.v; have q2 := nl_self e'.v; have q3 := bw_mono (show nl e'.v ≤ nl e.v by omega); omega)) Nm.sl (fun r => rfl) (cPlusA e.v e'.v e.c e'.c 0 1 2 _ _ _ rfl (isNum _ _ _) rfl (isNum _ _ _) h1.len h1.cap h2.len h2.cap (by omega) rfl)
theorem wCmp (a b : Nat) (w : World) (xs : List Value) (hx : All2 (AR w) [.sl a, .sl b] xs) : Calls Tryz.prog 101 ⟨xs⟩ w fun e w' => e = .returned (.int .i64 (cmpN a b)) ∧ Below w.heap.size w w' := by
  obtain ⟨e, e', rfl, h1, v1, h2, v2⟩ := ar_sl2 hx
  subst v1 v2
  have q1 := h1.cap
  have q2 := h2.cap
  exact num_same (es := [e, e']) (Tryz.call101) (two_at h1 h2) (vs := [.slice (some ⟨0, 0, some 0⟩) (nl e.v) e.c, .slice (some ⟨1, 0, some 0⟩) (nl e'.v) e'.c]) (xs := [e.sl, e'.sl]) ⟨.sl rfl, .sl rfl, trivial⟩ (.int .i64 (cmpN e.v e'.v)) ⟨.pl rfl, trivial⟩ (cCmp e.v e'.v e.c e'.c 0 1 _ _ _ rfl (isNum _ _ _) rfl (isNum _ _ _) h1.len (by omega) h2.len (by omega))
theorem wMade (s : Bool) (e : Nm) (w : World) (h1 : NumAt w e) : Calls Tryz.prog 65 ⟨[.bool s, e.sl]⟩ w fun e' w' => e' = .returned (e.big (s && decide (0 < e.v))) ∧ Below w.heap.size w w' :=
  num_same (es := [e]) (Tryz.call65) (one_at h1) (vs := [.bool s, .slice (some ⟨0, 0, some 0⟩) (nl e.v) e.c]) (xs := [.bool s, e.sl]) ⟨.pl rfl, .sl rfl, trivial⟩ (e.big (s && decide (0 < e.v))) (V := .agg #[.bool (s && decide (0 < e.v)), .bool false, .slice (some ⟨0, 0, some 0⟩) (nl e.v) e.c]) ⟨.big rfl, trivial⟩ (cMade32 e.v e.c (nl e.v) 0 s _ rfl _ _ rfl (isNum _ _ _) h1.len h1.cap (nl_self _))
theorem cAMade (s : Bool) (κ : Nm) (i : Nat) {L : List Nm} {h : List (Option Chunk)} (hi : h[i]? = some (some (arC L))) (hκ : κ ∈ L) :
    CallOK Tryz.prog 65 [.bool s, .slice (some ⟨κ.b, κ.o, none⟩) (nl κ.v) κ.c] h (.agg #[.bool (s && decide (0 < κ.v)), .bool false, .slice (some ⟨κ.b, κ.o, none⟩) (nl κ.v) κ.c]) [] [i] :=
  call_arP (qs := [.pl (.bool s), .at_ κ]) [i] i (.inl hi) (.inl (List.mem_singleton.2 rfl)) (Tryz.call65) (fun _ _ => ⟨.pl rfl, .at_ hκ, trivial⟩) rfl fun w xs hx => by
    rcases xs with _ | ⟨x, _ | ⟨y, _ | ⟨z, xs⟩⟩⟩ <;> first | exact hx.elim | exact hx.2.elim | exact hx.2.2.elim | skip
    obtain ⟨h1, h2, _⟩ := hx
    cases h1 with
    | pl hp => cases h2 with
      | at_ ha => exact wMade s κ w ha
set_option maxRecDepth 100000 in
set_option maxHeartbeats 2000000 in
theorem cROfNeg (n K : Nat) (h : List (Option Chunk)) (h0 : h[K]? = some none) (hn : n ≤ 9223372036854775808) (hp : 0 < n) :
    CallOK Tryz.prog 43 [.int .i64 (-(n : Int))] h (.agg #[.bool true, .bool false, .slice (some ⟨K, 0, some 0⟩) (nl n) 2]) [(K, numC true 2 n)] [] := by
  have h2 := two_words (n := n) (by omega)
  have hu : IntKind.u64.wrap (0 - IntKind.u64.wrap (-(n : Int))) = (n : Int) := by rw [IntKind.wrap_u64, IntKind.wrap_u64]; omega
  refine call_sub (G := tys) [] [⟨K, 1, numC true 2 n⟩] [.int .i64 (-(n : Int))] tysOK mixed Tryz.func43 (by rfl) (Tryz.call43) trivial trivial trivial ⟨⟨h0, rfl, by show 0 < 2; decide, by simp⟩, trivial⟩ ⟨.plain rfl, trivial⟩ ?_
  repeat' (refine N.go ?_; first | with_reducible refine N.obl (by decide) ?_ | with_reducible refine N.obl (flat_wi _ _ _) ?_ | with_reducible refine N.obl (flat_lim _ _) ?_ | with_reducible refine N.eq ?_ | with_reducible refine N.obl rfl ?_ | with_reducible refine N.obl ⟨by kernel_rfl, by kernel_rfl⟩ ?_ | with_reducible refine N.alt ?_ | with_reducible refine N.forkT ?_ | with_reducible refine N.forkF ?_ | refine N.call (cMade32 n 2 2 _ (decide (-(n : Int) < 0)) true (by rw [decide_eq_true (show -(n : Int) < 0 by omega), decide_eq_true hp]; rfl) _ _ (by rfl) (isNum2 (by rw [hu, w32]) (by rw [hu, fd32, w32])) (by omega) (by omega) h2.1) ?_ | refine N.forkNo (by decide) ?_ | refine N.forkYes (by decide) ?_ | refine N.forkYes (by rw [decide_eq_true_eq]; omega) ?_ | refine N.forkNo (by rw [decide_eq_false_iff_not]; omega) ?_ | refine N.obl (.one (.agg ⟨.plain (by rfl), .plain rfl, .slice (by rfl), trivial⟩)) ?_ | refine N.obl ⟨⟨Nat.zero_le _, post_num (by rfl) rfl (isNum2 (by rw [hu, w32]) (by rw [hu, fd32, w32]))⟩, trivial⟩ ?_ | refine N.obl trivial ?_ | exact N.true | fail_if_success skip)
theorem wOf (z : Int) (hz : -9223372036854775808 ≤ z ∧ z < 9223372036854775808) (w : World) (xs : List Value) (hx : All2 (AR w) [.pl (.int .i64 z)] xs) : Mk Tryz.prog 43 xs w z.natAbs (bzW z) := by
  obtain rfl := ar_pl1 hx
  have hn2 : nl z.natAbs ≤ 2 := (two_words (n := z.natAbs) (by omega)).2
  by_cases hs : z < 0
  · obtain ⟨n, rfl⟩ : ∃ n : Nat, z = -(n : Int) := ⟨z.natAbs, by omega⟩
    have e1 : (-(n : Int)).natAbs = n := by omega
    rw [e1] at hn2 ⊢
    refine num_new (V := fun K => .agg #[.bool true, .bool false, .slice (some ⟨K, 0, some 0⟩) (nl n) 2]) (es := []) (Tryz.call43) (fun e he => by cases he) (vs := [.int .i64 (-(n : Int))]) (xs := [.int .i64 (-(n : Int))]) ⟨.pl rfl, trivial⟩ ⟨by decide, by decide⟩ hn2 (bzW (-(n : Int))) (fun r => ?_) (cROfNeg n 0 _ rfl (by omega) (by omega))
    rw [bzW, decide_eq_true hs]; simp only [den, den2, List.map_toArray, List.map_cons, List.map_nil, den1, den0, denA, Nat.add_zero]
  · obtain ⟨n, rfl⟩ : ∃ n : Nat, z = (n : Int) := ⟨z.natAbs, by omega⟩
    have e1 : ((n : Int)).natAbs = n := by omega
    rw [e1] at hn2 ⊢
    refine num_new (V := fun K => .agg #[.bool false, .bool false, .slice (some ⟨K, 0, some 0⟩) (nl n) 2]) (es := []) (Tryz.call43) (fun e he => by cases he) (vs := [.int .i64 (n : Int)]) (xs := [.int .i64 (n : Int)]) ⟨.pl rfl, trivial⟩ ⟨by decide, by decide⟩ hn2 (bzW (n : Int)) (fun r => ?_) (cROf n 0 _ rfl (by omega))
    rw [bzW, decide_eq_false hs]; simp only [den, den2, List.map_toArray, List.map_cons, List.map_nil, den1, den0, denA, Nat.add_zero]
set_option maxRecDepth 100000 in
set_option maxHeartbeats 2000000 in
theorem cRNegC (v m i : Nat) (s r : Bool) (hr : r = (!s && decide (0 < v))) (o : Chunk) (h : List (Option Chunk)) (hi : h[i]? = some (some o)) (hin : IsNum o m v) (hl : nl v ≤ m) (hm : m ≤ 31) :
    CallOK Tryz.prog 90 [.agg #[.bool s, .bool false, .slice (some ⟨i, 0, some 0⟩) (nl v) m]] h (.agg #[.bool r, .bool false, .slice (some ⟨i, 0, some 0⟩) (nl v) m]) [] [i] := by
  refine call_sub (G := tys) [⟨i, _, numC false m v, ⟨false, 0, []⟩⟩] [] [.agg #[.bool s, .bool false, .slice (some ⟨0, 0, some 0⟩) (nl v) m]] tysOK mixed Tryz.func90 (by rfl) (Tryz.call90) ⟨hi, trivial⟩ ⟨⟨fun h => (by cases h), Nat.le_of_eq hin.1.symm, num_re hin⟩, trivial⟩ (by simp [Apart]) trivial ⟨.agg ⟨.plain rfl, .plain rfl, .slice rfl, trivial⟩, trivial⟩ ?_
  repeat' (refine N.go ?_; first | with_reducible refine N.obl (by decide) ?_ | with_reducible refine N.obl (flat_wi _ _ _) ?_ | with_reducible refine N.obl (flat_lim _ _) ?_ | with_reducible refine N.eq ?_ | with_reducible refine N.obl rfl ?_ | with_reducible refine N.obl ⟨by kernel_rfl, by kernel_rfl⟩ ?_ | with_reducible refine N.alt ?_ | with_reducible refine N.forkT ?_ | with_reducible refine N.forkF ?_ | refine N.call (cMade32 v m (nl v) _ (!s) r hr _ _ (by rfl) (isNum _ _ _) hl hm (nl_self v)) ?_ | refine N.forkNo (by decide) ?_ | refine N.forkYes (by decide) ?_ | refine N.obl (.one (.agg ⟨.plain (by rfl), .plain rfl, .slice (by rfl), trivial⟩)) ?_ | refine N.obl trivial ?_ | exact N.true | fail_if_success skip)
theorem wNeg (s : Bool) (e : Nm) (w : World) (h1 : NumAt w e) : Calls Tryz.prog 90 ⟨[e.big s]⟩ w fun e' w' => e' = .returned (e.big (!s && decide (0 < e.v))) ∧ Below w.heap.size w w' :=
  num_same (es := [e]) (Tryz.call90) (one_at h1) (vs := [.agg #[.bool s, .bool false, .slice (some ⟨0, 0, some 0⟩) (nl e.v) e.c]]) (xs := [e.big s]) ⟨.big rfl, trivial⟩ (e.big (!s && decide (0 < e.v))) (V := .agg #[.bool (!s && decide (0 < e.v)), .bool false, .slice (some ⟨0, 0, some 0⟩) (nl e.v) e.c]) ⟨.big rfl, trivial⟩ (cRNegC e.v e.c 0 s _ rfl _ _ rfl (isNum _ _ _) h1.len h1.cap)
theorem cANeg (s : Bool) (κ : Nm) (i : Nat) {L : List Nm} {h : List (Option Chunk)} (hi : h[i]? = some (some (arC L))) (hκ : κ ∈ L) :
    CallOK Tryz.prog 90 [.agg #[.bool s, .bool false, .slice (some ⟨κ.b, κ.o, none⟩) (nl κ.v) κ.c]] h (.agg #[.bool (!s && decide (0 < κ.v)), .bool false, .slice (some ⟨κ.b, κ.o, none⟩) (nl κ.v) κ.c]) [] [i] :=
  call_arP (qs := [.bigat s κ]) [i] i (.inl hi) (.inl (List.mem_singleton.2 rfl)) (Tryz.call90) (fun _ _ => ⟨.bigat hκ, trivial⟩) rfl fun w xs hx => by
    rcases xs with _ | ⟨x, _ | ⟨y, xs⟩⟩ <;> first | exact hx.elim | exact hx.2.elim | skip
    obtain ⟨h1, _⟩ := hx
    cases h1 with
    | bigat ha => exact wNeg s κ w ha
/-- Sign of a number: its words are not read. -/
def sgnI (z : Int) : Int := if z < 0 then -1 else if z = 0 then 0 else 1
theorem sign_x (z : Int) (v b o c : Nat) (hv : v = z.natAbs) (w : World) : Calls Tryz.prog 29 #[.agg #[.bool (decide (z < 0)), .bool false, .slice (some ⟨b, o, none⟩) (nl v) c]] w fun e w' => e = .returned (.int .i64 (sgnI z)) ∧ Below w.heap.size w w' := by
  refine calls_pure (G := tys) w tysOK mixed Tryz.func29 (by rfl) (by rfl) (by rfl) ?_
  subst hv
  rcases Int.lt_trichotomy z 0 with h | h | h
  · have e1 : sgnI z = -1 := by unfold sgnI; rw [if_pos h]
    have e2 : nl z.natAbs ≠ 0 := fun e => by have := nl0 e; omega
    rw [e1]
    repeat' (refine N.go ?_; first | with_reducible refine N.obl (by decide) ?_ | with_reducible refine N.obl (flat_wi _ _ _) ?_ | with_reducible refine N.obl (flat_lim _ _) ?_ | with_reducible refine N.eq ?_ | with_reducible refine N.obl rfl ?_ | with_reducible refine N.obl ⟨by kernel_rfl, by kernel_rfl⟩ ?_ | with_reducible refine N.alt ?_ | with_reducible refine N.forkT ?_ | with_reducible refine N.forkF ?_ | refine N.forkYes (by rw [e2]; rfl) ?_ | refine N.forkNo (by simpa using e2) ?_ | refine N.forkYes (decide_eq_true (by omega)) ?_ | refine N.forkNo (decide_eq_false (by omega)) ?_ | refine N.forkNo (by decide) ?_ | refine N.forkYes (by decide) ?_ | refine N.forkYes (by rw [decide_eq_true_eq]; omega) ?_ | refine N.forkNo (by rw [decide_eq_false_iff_not]; omega) ?_ | fail_if_success skip)
    all_goals rfl
  · have e1 : sgnI z = 0 := by unfold sgnI; rw [if_neg (by omega), if_pos h]
    have e2 : nl z.natAbs = 0 := by rw [h]; exact nl_zero
    rw [e1]
    repeat' (refine N.go ?_; first | with_reducible refine N.obl (by decide) ?_ | with_reducible refine N.obl (flat_wi _ _ _) ?_ | with_reducible refine N.obl (flat_lim _ _) ?_ | with_reducible refine N.eq ?_ | with_reducible refine N.obl rfl ?_ | with_reducible refine N.obl ⟨by kernel_rfl, by kernel_rfl⟩ ?_ | with_reducible refine N.alt ?_ | with_reducible refine N.forkT ?_ | with_reducible refine N.forkF ?_ | refine N.forkYes (by rw [e2]; rfl) ?_ | refine N.forkNo (by simpa using e2) ?_ | refine N.forkYes (decide_eq_true (by omega)) ?_ | refine N.forkNo (decide_eq_false (by omega)) ?_ | refine N.forkNo (by decide) ?_ | refine N.forkYes (by decide) ?_ | refine N.forkYes (by rw [decide_eq_true_eq]; omega) ?_ | refine N.forkNo (by rw [decide_eq_false_iff_not]; omega) ?_ | fail_if_success skip)
    all_goals rfl
  · have e1 : sgnI z = 1 := by unfold sgnI; rw [if_neg (by omega), if_neg (by omega)]
    have e2 : nl z.natAbs ≠ 0 := fun e => by have := nl0 e; omega
    rw [e1]
    repeat' (refine N.go ?_; first | with_reducible refine N.obl (by decide) ?_ | with_reducible refine N.obl (flat_wi _ _ _) ?_ | with_reducible refine N.obl (flat_lim _ _) ?_ | with_reducible refine N.eq ?_ | with_reducible refine N.obl rfl ?_ | with_reducible refine N.obl ⟨by kernel_rfl, by kernel_rfl⟩ ?_ | with_reducible refine N.alt ?_ | with_reducible refine N.forkT ?_ | with_reducible refine N.forkF ?_ | refine N.forkYes (by rw [e2]; rfl) ?_ | refine N.forkNo (by simpa using e2) ?_ | refine N.forkYes (decide_eq_true (by omega)) ?_ | refine N.forkNo (decide_eq_false (by omega)) ?_ | refine N.forkNo (by decide) ?_ | refine N.forkYes (by decide) ?_ | refine N.forkYes (by rw [decide_eq_true_eq]; omega) ?_ | refine N.forkNo (by rw [decide_eq_false_iff_not]; omega) ?_ | fail_if_success skip)
    all_goals rfl
theorem cASign (z : Int) (v b o c : Nat) (hv : v = z.natAbs) (h : List (Option Chunk)) : CallOK Tryz.prog 29 [.agg #[.bool (decide (z < 0)), .bool false, .slice (some ⟨b, o, none⟩) (nl v) c]] h (.int .i64 (sgnI z)) [] [] := call_pure rfl rfl (Tryz.call29 _) (sign_x z v b o c hv)
theorem sgn_mul (x y : Int) : ((decide (x < 0) != decide (y < 0)) && decide (0 < x.natAbs * y.natAbs)) = decide (x * y < 0) := by
  rcases Int.lt_trichotomy x 0 with h | h | h <;> rcases Int.lt_trichotomy y 0 with k | k | k
  all_goals first
    | (subst h; simp; done)
    | (subst k; simp; done)
    | (have h1 : 0 < x.natAbs * y.natAbs := Nat.mul_pos (by omega) (by omega)
       rw [decide_eq_true h1, Bool.and_true]
       first
         | (rw [decide_eq_true h, decide_eq_true k, decide_eq_false (by have := Int.mul_pos_of_neg_of_neg h k; omega)]; rfl)
         | (rw [decide_eq_true h, decide_eq_false (by omega : ¬ y < 0), decide_eq_true (Int.mul_neg_of_neg_of_pos h k)]; rfl)
         | (rw [decide_eq_false (by omega : ¬ x < 0), decide_eq_true k, decide_eq_true (Int.mul_neg_of_pos_of_neg h k)]; rfl)
         | (rw [decide_eq_false (by omega : ¬ x < 0), decide_eq_false (by omega : ¬ y < 0), decide_eq_false (by have := Int.mul_pos h k; omega)]; rfl))
set_option maxRecDepth 100000 in
set_option maxHeartbeats 2000000 in
theorem wMul (x y : Int) (hb : nl x.natAbs + nl y.natAbs ≤ 31) (w : World) (xs : List Value) (hx : All2 (AR w) [bz x, bz y] xs) : Mk Tryz.prog 64 xs w (x * y).natAbs (bzW (x * y)) := by
  obtain ⟨e, e', rfl, h1, v1, h2, v2⟩ := ar_big2 hx
  have hm : (x * y).natAbs = e.v * e'.v := by rw [v1, v2]; exact Int.natAbs_mul x y
  refine calls_nums (es := [e, e']) (vs := [.agg #[.bool (decide (x < 0)), .bool false, .slice (some ⟨0, 0, some 0⟩) (nl e.v) e.c], .agg #[.bool (decide (y < 0)), .bool false, .slice (some ⟨1, 0, some 0⟩) (nl e'.v) e'.c]]) (xs := [e.big (decide (x < 0)), e'.big (decide (y < 0))]) w tysOK mixed Tryz.func64 (by rfl) (two_at h1 h2) ⟨.big rfl, .big rfl, trivial⟩ (fun _ => rfl) ?_
  repeat' (refine N.go ?_; first | with_reducible refine N.obl (by decide) ?_ | with_reducible refine N.obl (flat_wi _ _ _) ?_ | with_reducible refine N.obl (flat_lim _ _) ?_ | with_reducible refine N.eq ?_ | with_reducible refine N.obl rfl ?_ | with_reducible refine N.obl ⟨by kernel_rfl, by kernel_rfl⟩ ?_ | with_reducible refine N.forkT ?_ | with_reducible refine N.forkF ?_ | refine N.forkNo (by decide) ?_ | refine N.forkYes (by decide) ?_ | fail_if_success skip)
  refine N.go ?_
  refine N.altP ?_
  refine N.go ?_
  refine N.plan [0, 1, 2, 3, 4, 5, 6, 7, 8] [(9, [10, 11])] (by kernel_rfl) ?_
  repeat' (refine N.go ?_; first | with_reducible refine N.obl (by decide) ?_ | with_reducible refine N.obl (flat_wi _ _ _) ?_ | with_reducible refine N.obl (flat_lim _ _) ?_ | with_reducible refine N.eq ?_ | with_reducible refine N.obl rfl ?_ | with_reducible refine N.obl ⟨by kernel_rfl, by kernel_rfl⟩ ?_ | with_reducible refine N.forkT ?_ | with_reducible refine N.forkF ?_ | refine N.forkNo (by decide) ?_ | refine N.forkYes (by decide) ?_ | fail_if_success skip)
  refine N.go ?_
  refine N_callM [0, 1, 5] _ (by kernel_rfl) (fun h₂ hh => mk_arN 5 ((hh 5 (by simp)).trans rfl) (e.v * e'.v) Nm.sl (Tryz.call91) (qs := [.sl e.v, .sl e'.v]) ⟨.sl (.ch ((hh 0 (by simp)).trans rfl) (isNum _ _ _) h1.len h1.cap), .sl (.ch ((hh 1 (by simp)).trans rfl) (isNum _ _ _) h2.len h2.cap), trivial⟩ (fun _ => rfl) (wTimes e.v e'.v (by rw [v1, v2]; exact hb))) fun v ms hR => ?_
  obtain ⟨κ, hκ, rfl, rfl⟩ := hR
  refine ⟨by simp, ?_⟩
  have hsg : ((decide (x < 0) != decide (y < 0)) && decide (0 < κ.v)) = decide (x * y < 0) := by rw [hκ, v1, v2, sgn_mul]
  repeat' (refine N.go ?_; first | with_reducible refine N.obl (by decide) ?_ | with_reducible refine N.obl (flat_wi _ _ _) ?_ | with_reducible refine N.obl (flat_lim _ _) ?_ | with_reducible refine N.eq ?_ | with_reducible refine N.obl rfl ?_ | with_reducible refine N.obl ⟨by kernel_rfl, by kernel_rfl⟩ ?_ | with_reducible refine N.forkT ?_ | with_reducible refine N.forkF ?_ | refine N.call (cAMade _ κ 5 (by rfl) (List.mem_singleton.2 rfl)) ?_ | refine N.obl (by show endB _ _ = Bool.true; kernel_rfl) ?_ | refine N.endM κ 5 (hκ.trans hm.symm) (by rw [hsg]) (by rfl) (List.mem_singleton.2 rfl) | refine N.forkNo (by decide) ?_ | refine N.forkYes (by decide) ?_ | fail_if_success skip)
theorem cBCmp (a b : Nat) (i j m q : Nat) (h : List (Option Chunk)) {o o2 : Chunk} (hi : h[i]? = some (some o)) (hin : IsNum o m a) (hj : h[j]? = some (some o2)) (hjn : IsNum o2 q b) (hl : nl a ≤ m) (hm : m ≤ 31) (hl2 : nl b ≤ q) (hq : q ≤ 31) :
    CallOK Tryz.prog 101 [.slice (some ⟨i, 0, some 0⟩) (nl a) m, .slice (some ⟨j, 0, some 0⟩) (nl b) q] h (.int .i64 (cmpN a b)) [] [i, j] := cCmp a b m q i j o o2 h hi hin hj hjn hl (by omega) hl2 (by omega)
set_option maxRecDepth 100000 in
set_option maxHeartbeats 2000000 in
theorem wAdd (x y : Int) (a b : Nat) (hxa : a = x.natAbs) (hyb : b = y.natAbs) (ha : nl a ≤ 30) (hb : nl b ≤ 30) (w : World) (xs : List Value) (hx : All2 (AR w) [.big (decide (x < 0)) a, .big (decide (y < 0)) b] xs) : Mk Tryz.prog 89 xs w (x + y).natAbs (bzW (x + y)) := by
  obtain ⟨e, e', rfl, h1, v1, h2, v2⟩ := ar_big2 hx
  have q1 := h1.cap
  have q2 := h2.cap
  refine calls_nums (es := [e, e']) (vs := [.agg #[.bool (decide (x < 0)), .bool false, .slice (some ⟨0, 0, some 0⟩) (nl e.v) e.c], .agg #[.bool (decide (y < 0)), .bool false, .slice (some ⟨1, 0, some 0⟩) (nl e'.v) e'.c]]) (xs := [e.big (decide (x < 0)), e'.big (decide (y < 0))]) w tysOK mixed Tryz.func89 (by rfl) (two_at h1 h2) ⟨.big rfl, .big rfl, trivial⟩ (fun _ => rfl) ?_
  repeat' (refine N.go ?_; first | with_reducible refine N.obl (by decide) ?_ | with_reducible refine N.obl (flat_wi _ _ _) ?_ | with_reducible refine N.obl (flat_lim _ _) ?_ | with_reducible refine N.eq ?_ | with_reducible refine N.obl rfl ?_ | with_reducible refine N.obl ⟨by kernel_rfl, by kernel_rfl⟩ ?_ | with_reducible refine N.forkT ?_ | with_reducible refine N.forkF ?_ | refine N.forkNo (by decide) ?_ | refine N.forkYes (by decide) ?_ | fail_if_success skip)
  refine N.go ?_
  by_cases hs : decide (x < 0) = decide (y < 0)
  · refine N.forkYes (by rw [hs]; simp) ?_
    refine N.go ?_
    refine N.altP ?_
    refine N.go ?_
    refine N.plan [0, 1, 2, 3, 4, 5] [(6, [7, 8])] (by kernel_rfl) ?_
    repeat' (refine N.go ?_; first | with_reducible refine N.obl (by decide) ?_ | with_reducible refine N.obl (flat_wi _ _ _) ?_ | with_reducible refine N.obl (flat_lim _ _) ?_ | with_reducible refine N.eq ?_ | with_reducible refine N.obl rfl ?_ | with_reducible refine N.obl ⟨by kernel_rfl, by kernel_rfl⟩ ?_ | with_reducible refine N.forkT ?_ | with_reducible refine N.forkF ?_ | refine N.forkNo (by decide) ?_ | refine N.forkYes (by decide) ?_ | fail_if_success skip)
    refine N.go ?_
    refine N_callM [0, 1, 5] _ (by kernel_rfl) (fun h₂ hh => mk_arN 5 ((hh 5 (by simp)).trans rfl) (e.v + e'.v) Nm.sl (Tryz.call100) (qs := [.sl e.v, .sl e'.v]) ⟨.sl (.ch ((hh 0 (by simp)).trans rfl) (isNum _ _ _) h1.len h1.cap), .sl (.ch ((hh 1 (by simp)).trans rfl) (isNum _ _ _) h2.len h2.cap), trivial⟩ (fun _ => rfl) (wPlus e.v e'.v (by rw [v1]; exact ha) (by rw [v2]; exact hb))) fun v ms hR => ?_
    obtain ⟨κ, hκ, rfl, rfl⟩ := hR
    refine ⟨by simp, ?_⟩
    have hsg : (decide (x < 0) && decide (0 < κ.v)) = decide (x + y < 0) := by
      rw [hκ, v1, v2, hxa, hyb]
      rw [decide_eq_decide] at hs
      rw [Bool.eq_iff_iff, Bool.and_eq_true, decide_eq_true_iff, decide_eq_true_iff, decide_eq_true_iff]; omega
    have hv : e.v + e'.v = (x + y).natAbs := by rw [v1, v2, hxa, hyb]; rw [decide_eq_decide] at hs; omega
    repeat' (refine N.go ?_; first | with_reducible refine N.obl (by decide) ?_ | with_reducible refine N.obl (flat_wi _ _ _) ?_ | with_reducible refine N.obl (flat_lim _ _) ?_ | with_reducible refine N.eq ?_ | with_reducible refine N.obl rfl ?_ | with_reducible refine N.obl ⟨by kernel_rfl, by kernel_rfl⟩ ?_ | with_reducible refine N.forkT ?_ | with_reducible refine N.forkF ?_ | refine N.call (cAMade _ κ 5 (by rfl) (List.mem_singleton.2 rfl)) ?_ | refine N.obl (by show endB _ _ = Bool.true; kernel_rfl) ?_ | refine N.endM κ 5 (hκ.trans hv) (by rw [hsg]) (by rfl) (List.mem_singleton.2 rfl) | refine N.forkNo (by decide) ?_ | refine N.forkYes (by decide) ?_ | fail_if_success skip)
  · refine N.forkNo (by simpa using hs) ?_
    refine N.go ?_
    refine N.call (cBCmp e.v e'.v 0 1 e.c e'.c _ (by rfl) (isNum _ _ _) (by rfl) (isNum _ _ _) h1.len h1.cap h2.len h2.cap) ?_
    repeat' (refine N.go ?_; first | with_reducible refine N.obl (by decide) ?_ | with_reducible refine N.obl (flat_wi _ _ _) ?_ | with_reducible refine N.obl (flat_lim _ _) ?_ | with_reducible refine N.eq ?_ | with_reducible refine N.obl rfl ?_ | with_reducible refine N.obl ⟨by kernel_rfl, by kernel_rfl⟩ ?_ | with_reducible refine N.forkT ?_ | with_reducible refine N.forkF ?_ | refine N.forkNo (by decide) ?_ | refine N.forkYes (by decide) ?_ | fail_if_success skip)
    refine N.go ?_
    by_cases hle : e'.v ≤ e.v
    · refine N.forkYes (by rw [decide_eq_true_eq]; unfold cmpN; rw [if_neg (by omega)]; split <;> decide) ?_
      refine N.go ?_
      refine N.altP ?_
      refine N.go ?_
      refine N.plan [0, 1, 2, 3, 4, 5] [(6, [7, 8])] (by kernel_rfl) ?_
      repeat' (refine N.go ?_; first | with_reducible refine N.obl (by decide) ?_ | with_reducible refine N.obl (flat_wi _ _ _) ?_ | with_reducible refine N.obl (flat_lim _ _) ?_ | with_reducible refine N.eq ?_ | with_reducible refine N.obl rfl ?_ | with_reducible refine N.obl ⟨by kernel_rfl, by kernel_rfl⟩ ?_ | with_reducible refine N.forkT ?_ | with_reducible refine N.forkF ?_ | refine N.forkNo (by decide) ?_ | refine N.forkYes (by decide) ?_ | fail_if_success skip)
      refine N.go ?_
      refine N_callM [0, 1, 5] _ (by kernel_rfl) (fun h₂ hh => mk_arN 5 ((hh 5 (by simp)).trans rfl) (e.v - e'.v) Nm.sl (Tryz.call102) (qs := [.sl e.v, .sl e'.v]) ⟨.sl (.ch ((hh 0 (by simp)).trans rfl) (isNum _ _ _) h1.len h1.cap), .sl (.ch ((hh 1 (by simp)).trans rfl) (isNum _ _ _) h2.len h2.cap), trivial⟩ (fun _ => rfl) (wMinus e.v e'.v hle)) fun v ms hR => ?_
      obtain ⟨κ, hκ, rfl, rfl⟩ := hR
      refine ⟨by simp, ?_⟩
      have hsg : (decide (x < 0) && decide (0 < κ.v)) = decide (x + y < 0) := by
        rw [hκ]
        rw [v1, v2, hxa, hyb] at hle ⊢
        rw [decide_eq_decide] at hs
        rw [Bool.eq_iff_iff, Bool.and_eq_true, decide_eq_true_iff, decide_eq_true_iff, decide_eq_true_iff]; omega
      have hv : e.v - e'.v = (x + y).natAbs := by rw [v1, v2, hxa, hyb] at hle ⊢; rw [decide_eq_decide] at hs; omega
      repeat' (refine N.go ?_; first | with_reducible refine N.obl (by decide) ?_ | with_reducible refine N.obl (flat_wi _ _ _) ?_ | with_reducible refine N.obl (flat_lim _ _) ?_ | with_reducible refine N.eq ?_ | with_reducible refine N.obl rfl ?_ | with_reducible refine N.obl ⟨by kernel_rfl, by kernel_rfl⟩ ?_ | with_reducible refine N.forkT ?_ | with_reducible refine N.forkF ?_ | refine N.call (cAMade _ κ 5 (by rfl) (List.mem_singleton.2 rfl)) ?_ | refine N.obl (by show endB _ _ = Bool.true; kernel_rfl) ?_ | refine N.endM κ 5 (hκ.trans hv) (by rw [hsg]) (by rfl) (List.mem_singleton.2 rfl) | refine N.forkNo (by decide) ?_ | refine N.forkYes (by decide) ?_ | fail_if_success skip)
    · refine N.forkNo (by rw [decide_eq_false_iff_not]; unfold cmpN; rw [if_pos (by omega)]; decide) ?_
      refine N.go ?_
      refine N.altP ?_
      refine N.go ?_
      refine N.plan [0, 1, 2, 3, 4, 5] [(6, [7, 8])] (by kernel_rfl) ?_
      repeat' (refine N.go ?_; first | with_reducible refine N.obl (by decide) ?_ | with_reducible refine N.obl (flat_wi _ _ _) ?_ | with_reducible refine N.obl (flat_lim _ _) ?_ | with_reducible refine N.eq ?_ | with_reducible refine N.obl rfl ?_ | with_reducible refine N.obl ⟨by kernel_rfl, by kernel_rfl⟩ ?_ | with_reducible refine N.forkT ?_ | with_reducible refine N.forkF ?_ | refine N.forkNo (by decide) ?_ | refine N.forkYes (by decide) ?_ | fail_if_success skip)
      refine N.go ?_
      refine N_callM [0, 1, 5] _ (by kernel_rfl) (fun h₂ hh => mk_arN 5 ((hh 5 (by simp)).trans rfl) (e'.v - e.v) Nm.sl (Tryz.call102) (qs := [.sl e'.v, .sl e.v]) ⟨.sl (.ch ((hh 1 (by simp)).trans rfl) (isNum _ _ _) h2.len h2.cap), .sl (.ch ((hh 0 (by simp)).trans rfl) (isNum _ _ _) h1.len h1.cap), trivial⟩ (fun _ => rfl) (wMinus e'.v e.v (by omega))) fun v ms hR => ?_
      obtain ⟨κ, hκ, rfl, rfl⟩ := hR
      refine ⟨by simp, ?_⟩
      have hsg : (decide (y < 0) && decide (0 < κ.v)) = decide (x + y < 0) := by
        rw [hκ]
        rw [v1, v2, hxa, hyb] at hle ⊢
        rw [decide_eq_decide] at hs
        rw [Bool.eq_iff_iff, Bool.and_eq_true, decide_eq_true_iff, decide_eq_true_iff, decide_eq_true_iff]; omega
      have hv : e'.v - e.v = (x + y).natAbs := by rw [v1, v2, hxa, hyb] at hle ⊢; rw [decide_eq_decide] at hs; omega
      repeat' (refine N.go ?_; first | with_reducible refine N.obl (by decide) ?_ | with_reducible refine N.obl (flat_wi _ _ _) ?_ | with_reducible refine N.obl (flat_lim _ _) ?_ | with_reducible refine N.eq ?_ | with_reducible refine N.obl rfl ?_ | with_reducible refine N.obl ⟨by kernel_rfl, by kernel_rfl⟩ ?_ | with_reducible refine N.forkT ?_ | with_reducible refine N.forkF ?_ | refine N.call (cAMade _ κ 5 (by rfl) (List.mem_singleton.2 rfl)) ?_ | refine N.obl (by show endB _ _ = Bool.true; kernel_rfl) ?_ | refine N.endM κ 5 (hκ.trans hv) (by rw [hsg]) (by rfl) (List.mem_singleton.2 rfl) | refine N.forkNo (by decide) ?_ | refine N.forkYes (by decide) ?_ | fail_if_success skip)
set_option maxRecDepth 100000 in
set_option maxHeartbeats 2000000 in
theorem wSub (x y : Int) (a b : Nat) (hxa : a = x.natAbs) (hyb : b = y.natAbs) (ha : nl a ≤ 30) (hb : nl b ≤ 30) (w : World) (xs : List Value) (hx : All2 (AR w) [.big (decide (x < 0)) a, .big (decide (y < 0)) b] xs) : Mk Tryz.prog 63 xs w (x - y).natAbs (bzW (x - y)) := by
  obtain ⟨e, e', rfl, h1, v1, h2, v2⟩ := ar_big2 hx
  have q1 := h1.cap
  have q2 := h2.cap
  have hng : decide (-y < 0) = (!decide (y < 0) && decide (0 < e'.v)) := by
    rw [v2, hyb, Bool.eq_iff_iff, Bool.and_eq_true, decide_eq_true_iff, decide_eq_true_iff, Bool.not_eq_true', decide_eq_false_iff_not]; omega
  rw [Int.sub_eq_add_neg]
  refine calls_nums (es := [e, e']) (vs := [.agg #[.bool (decide (x < 0)), .bool false, .slice (some ⟨0, 0, some 0⟩) (nl e.v) e.c], .agg #[.bool (decide (y < 0)), .bool false, .slice (some ⟨1, 0, some 0⟩) (nl e'.v) e'.c]]) (xs := [e.big (decide (x < 0)), e'.big (decide (y < 0))]) w tysOK mixed Tryz.func63 (by rfl) (two_at h1 h2) ⟨.big rfl, .big rfl, trivial⟩ (fun _ => rfl) ?_
  repeat' (refine N.go ?_; first | with_reducible refine N.obl (by decide) ?_ | with_reducible refine N.obl (flat_wi _ _ _) ?_ | with_reducible refine N.obl (flat_lim _ _) ?_ | with_reducible refine N.eq ?_ | with_reducible refine N.obl rfl ?_ | with_reducible refine N.obl ⟨by kernel_rfl, by kernel_rfl⟩ ?_ | with_reducible refine N.forkT ?_ | with_reducible refine N.forkF ?_ | refine N.forkNo (by decide) ?_ | refine N.forkYes (by decide) ?_ | fail_if_success skip)
  refine N.go ?_
  refine N.altP ?_
  refine N.go ?_
  refine N.plan [0, 1, 2] [(3, [4])] (by kernel_rfl) ?_
  repeat' (refine N.go ?_; first | with_reducible refine N.obl (by decide) ?_ | with_reducible refine N.obl (flat_wi _ _ _) ?_ | with_reducible refine N.obl (flat_lim _ _) ?_ | with_reducible refine N.eq ?_ | with_reducible refine N.obl rfl ?_ | with_reducible refine N.obl ⟨by kernel_rfl, by kernel_rfl⟩ ?_ | with_reducible refine N.forkT ?_ | with_reducible refine N.forkF ?_ | refine N.call (cRNegC e'.v e'.c 1 (decide (y < 0)) (decide (-y < 0)) hng _ _ (by rfl) (isNum _ _ _) h2.len h2.cap) ?_ | refine N.forkNo (by decide) ?_ | refine N.forkYes (by decide) ?_ | fail_if_success skip)
  refine N.go ?_
  refine N_callM [0, 1, 9] _ (by kernel_rfl) (fun h₂ hh => mk_arN 9 ((hh 9 (by simp)).trans rfl) (x + -y).natAbs (bzW (x + -y)) (Tryz.call89) (qs := [.big (decide (x < 0)) e.v, .big (decide (-y < 0)) e'.v]) ⟨.big (.ch ((hh 0 (by simp)).trans rfl) (isNum _ _ _) h1.len h1.cap), .big (.ch ((hh 1 (by simp)).trans rfl) (isNum _ _ _) h2.len h2.cap), trivial⟩ (fun _ => rfl) (wAdd x (-y) e.v e'.v (by rw [v1, hxa]) (by rw [v2, hyb, Int.natAbs_neg]) (by rw [v1]; exact ha) (by rw [v2]; exact hb))) fun v ms hR => ?_
  obtain ⟨κ, hκ, rfl, rfl⟩ := hR
  refine ⟨by simp, ?_⟩
  repeat' (refine N.go ?_; first | with_reducible refine N.obl (by decide) ?_ | with_reducible refine N.obl (flat_wi _ _ _) ?_ | with_reducible refine N.obl (flat_lim _ _) ?_ | with_reducible refine N.eq ?_ | with_reducible refine N.obl rfl ?_ | with_reducible refine N.obl ⟨by kernel_rfl, by kernel_rfl⟩ ?_ | with_reducible refine N.forkT ?_ | with_reducible refine N.forkF ?_ | refine N.obl (by show endB _ _ = Bool.true; kernel_rfl) ?_ | refine N.endM κ 9 hκ rfl (by rfl) (List.mem_singleton.2 rfl) | refine N.forkNo (by decide) ?_ | refine N.forkYes (by decide) ?_ | fail_if_success skip)
set_option maxRecDepth 100000 in
set_option maxHeartbeats 2000000 in
theorem wDet3 (a b d : Int) (had : nl a.natAbs + nl d.natAbs ≤ 30) (hbb : nl b.natAbs + nl b.natAbs ≤ 30) (w : World) (xs : List Value) (hx : All2 (AR w) [bz a, bz b, bz d] xs) : Mk Tryz.prog 42 xs w (a * d - b * b).natAbs (bzW (a * d - b * b)) := by
  obtain ⟨e, e', e'', rfl, h1, v1, h2, v2, h3, v3⟩ := ar_big3 hx
  have n1 : nl (a * d).natAbs ≤ 30 := by rw [Int.natAbs_mul]; exact Nat.le_trans (nl_le.2 (mul_nl3 _ _)) had
  have n2 : nl (b * b).natAbs ≤ 30 := by rw [Int.natAbs_mul]; exact Nat.le_trans (nl_le.2 (mul_nl3 _ _)) hbb
  refine calls_nums (es := [e, e', e'']) (vs := [.agg #[.bool (decide (a < 0)), .bool false, .slice (some ⟨0, 0, some 0⟩) (nl e.v) e.c], .agg #[.bool (decide (b < 0)), .bool false, .slice (some ⟨1, 0, some 0⟩) (nl e'.v) e'.c], .agg #[.bool (decide (d < 0)), .bool false, .slice (some ⟨2, 0, some 0⟩) (nl e''.v) e''.c]]) (xs := [e.big (decide (a < 0)), e'.big (decide (b < 0)), e''.big (decide (d < 0))]) w tysOK mixed Tryz.func42 (by rfl) (three_at h1 h2 h3) ⟨.big rfl, .big rfl, .big rfl, trivial⟩ (fun _ => rfl) ?_
  repeat' (refine N.go ?_; first | with_reducible refine N.obl (by decide) ?_ | with_reducible refine N.obl (flat_wi _ _ _) ?_ | with_reducible refine N.obl (flat_lim _ _) ?_ | with_reducible refine N.eq ?_ | with_reducible refine N.obl rfl ?_ | with_reducible refine N.obl ⟨by kernel_rfl, by kernel_rfl⟩ ?_ | with_reducible refine N.forkT ?_ | with_reducible refine N.forkF ?_ | refine N.forkNo (by decide) ?_ | refine N.forkYes (by decide) ?_ | fail_if_success skip)
  refine N.go ?_
  refine N.altP ?_
  refine N.go ?_
  refine N.plan [0, 1, 3, 4] [(2, []), (5, []), (6, [7])] (by kernel_rfl) ?_
  repeat' (refine N.go ?_; first | with_reducible refine N.obl (by decide) ?_ | with_reducible refine N.obl (flat_wi _ _ _) ?_ | with_reducible refine N.obl (flat_lim _ _) ?_ | with_reducible refine N.eq ?_ | with_reducible refine N.obl rfl ?_ | with_reducible refine N.obl ⟨by kernel_rfl, by kernel_rfl⟩ ?_ | with_reducible refine N.forkT ?_ | with_reducible refine N.forkF ?_ | refine N.forkNo (by decide) ?_ | refine N.forkYes (by decide) ?_ | fail_if_success skip)
  refine N.go ?_
  refine N_callM [0, 2, 7] _ (by kernel_rfl) (fun h₂ hh => mk_arN 7 ((hh 7 (by simp)).trans rfl) (a * d).natAbs (bzW (a * d)) (Tryz.call64) (qs := [.big (decide (a < 0)) e.v, .big (decide (d < 0)) e''.v]) ⟨.big (.ch ((hh 0 (by simp)).trans rfl) (isNum _ _ _) h1.len h1.cap), .big (.ch ((hh 2 (by simp)).trans rfl) (isNum _ _ _) h3.len h3.cap), trivial⟩ (fun _ => rfl) (by rw [v1, v3]; exact wMul a d (by omega))) fun v ms hR => ?_
  obtain ⟨κ, hκ, rfl, rfl⟩ := hR
  refine ⟨by simp, ?_⟩
  repeat' (refine N.go ?_; first | with_reducible refine N.obl (by decide) ?_ | with_reducible refine N.obl (flat_wi _ _ _) ?_ | with_reducible refine N.obl (flat_lim _ _) ?_ | with_reducible refine N.eq ?_ | with_reducible refine N.obl rfl ?_ | with_reducible refine N.obl ⟨by kernel_rfl, by kernel_rfl⟩ ?_ | with_reducible refine N.forkT ?_ | with_reducible refine N.forkF ?_ | refine N.forkNo (by decide) ?_ | refine N.forkYes (by decide) ?_ | fail_if_success skip)
  refine N.go ?_
  refine N_callM [1, 7] _ (by kernel_rfl) (fun h₂ hh => mk_arM 7 ((hh 7 (by simp)).trans rfl) (b * b).natAbs (bzW (b * b)) (Tryz.call64) (qs := [.big (decide (b < 0)) e'.v, .big (decide (b < 0)) e'.v]) ⟨.big (.ch ((hh 1 (by simp)).trans rfl) (isNum _ _ _) h2.len h2.cap), .big (.ch ((hh 1 (by simp)).trans rfl) (isNum _ _ _) h2.len h2.cap), trivial⟩ (fun _ => rfl) (by rw [v2]; exact wMul b b (by omega))) fun v ms hR => ?_
  obtain ⟨κ', hκ', rfl, rfl⟩ := hR
  refine ⟨by simp, ?_⟩
  repeat' (refine N.go ?_; first | with_reducible refine N.obl (by decide) ?_ | with_reducible refine N.obl (flat_wi _ _ _) ?_ | with_reducible refine N.obl (flat_lim _ _) ?_ | with_reducible refine N.eq ?_ | with_reducible refine N.obl rfl ?_ | with_reducible refine N.obl ⟨by kernel_rfl, by kernel_rfl⟩ ?_ | with_reducible refine N.forkT ?_ | with_reducible refine N.forkF ?_ | refine N.forkNo (by decide) ?_ | refine N.forkYes (by decide) ?_ | fail_if_success skip)
  refine N.go ?_
  refine N_callM [7] _ (by kernel_rfl) (fun h₂ hh => mk_arM 7 ((hh 7 (by simp)).trans rfl) (a * d - b * b).natAbs (bzW (a * d - b * b)) (Tryz.call63) (qs := [.big (decide (a * d < 0)) κ.v, .big (decide (b * b < 0)) κ'.v]) ⟨.big (.ar (by simp)), .big (.ar (by simp)), trivial⟩ (fun _ => rfl) (wSub (a * d) (b * b) κ.v κ'.v hκ hκ' (by rw [hκ]; exact n1) (by rw [hκ']; exact n2))) fun v ms hR => ?_
  obtain ⟨κ3, hκ3, rfl, rfl⟩ := hR
  refine ⟨by simp, ?_⟩
  repeat' (refine N.go ?_; first | with_reducible refine N.obl (by decide) ?_ | with_reducible refine N.obl (flat_wi _ _ _) ?_ | with_reducible refine N.obl (flat_lim _ _) ?_ | with_reducible refine N.eq ?_ | with_reducible refine N.obl rfl ?_ | with_reducible refine N.obl ⟨by kernel_rfl, by kernel_rfl⟩ ?_ | with_reducible refine N.forkT ?_ | with_reducible refine N.forkF ?_ | refine N.obl (by show endB _ _ = Bool.true; kernel_rfl) ?_ | refine N.endM κ3 7 hκ3 rfl (by rfl) (by simp) | refine N.forkNo (by decide) ?_ | refine N.forkYes (by decide) ?_ | fail_if_success skip)
set_option maxRecDepth 100000 in
set_option maxHeartbeats 2000000 in
theorem wDet (a b d : Int) (ha : -9223372036854775808 ≤ a ∧ a < 9223372036854775808) (hb : -9223372036854775808 ≤ b ∧ b < 9223372036854775808) (hd : -9223372036854775808 ≤ d ∧ d < 9223372036854775808) (w : World) (xs : List Value) (hx : All2 (AR w) [.pl (.agg #[.int .i64 a, .int .i64 b, .int .i64 d])] xs) : Mk Tryz.prog 30 xs w (a * d - b * b).natAbs (bzW (a * d - b * b)) := by
  obtain rfl := ar_pl1 hx
  have n1 : nl a.natAbs ≤ 2 := (two_words (n := a.natAbs) (by omega)).2
  have n2 : nl b.natAbs ≤ 2 := (two_words (n := b.natAbs) (by omega)).2
  have n3 : nl d.natAbs ≤ 2 := (two_words (n := d.natAbs) (by omega)).2
  refine calls_nums (es := []) (vs := [.agg #[.int .i64 a, .int .i64 b, .int .i64 d]]) (xs := [.agg #[.int .i64 a, .int .i64 b, .int .i64 d]]) w tysOK mixed Tryz.func30 (by rfl) (fun e he => by cases he) ⟨.pl rfl, trivial⟩ (fun _ => rfl) ?_
  repeat' (refine N.go ?_; first | with_reducible refine N.obl (by decide) ?_ | with_reducible refine N.obl (flat_wi _ _ _) ?_ | with_reducible refine N.obl (flat_lim _ _) ?_ | with_reducible refine N.eq ?_ | with_reducible refine N.obl rfl ?_ | with_reducible refine N.obl ⟨by kernel_rfl, by kernel_rfl⟩ ?_ | with_reducible refine N.forkT ?_ | with_reducible refine N.forkF ?_ | refine N.forkNo (by decide) ?_ | refine N.forkYes (by decide) ?_ | fail_if_success skip)
  refine N.go ?_
  refine N.altP ?_
  refine N.go ?_
  refine N.plan [0, 1, 3, 4, 6, 7] [(2, []), (5, []), (8, []), (9, [10])] (by kernel_rfl) ?_
  repeat' (refine N.go ?_; first | with_reducible refine N.obl (by decide) ?_ | with_reducible refine N.obl (flat_wi _ _ _) ?_ | with_reducible refine N.obl (flat_lim _ _) ?_ | with_reducible refine N.eq ?_ | with_reducible refine N.obl rfl ?_ | with_reducible refine N.obl ⟨by kernel_rfl, by kernel_rfl⟩ ?_ | with_reducible refine N.forkT ?_ | with_reducible refine N.forkF ?_ | refine N.forkNo (by decide) ?_ | refine N.forkYes (by decide) ?_ | fail_if_success skip)
  refine N.go ?_
  refine N_callM [2] _ (by kernel_rfl) (fun h₂ hh => mk_arN 2 ((hh 2 (by simp)).trans rfl) a.natAbs (bzW a) (Tryz.call43) (qs := [.pl (.int .i64 a)]) ⟨.pl rfl, trivial⟩ (fun _ => rfl) (wOf a ha)) fun v ms hR => ?_
  obtain ⟨κ1, hκ1, rfl, rfl⟩ := hR
  refine ⟨by simp, ?_⟩
  repeat' (refine N.go ?_; first | with_reducible refine N.obl (by decide) ?_ | with_reducible refine N.obl (flat_wi _ _ _) ?_ | with_reducible refine N.obl (flat_lim _ _) ?_ | with_reducible refine N.eq ?_ | with_reducible refine N.obl rfl ?_ | with_reducible refine N.obl ⟨by kernel_rfl, by kernel_rfl⟩ ?_ | with_reducible refine N.forkT ?_ | with_reducible refine N.forkF ?_ | refine N.forkNo (by decide) ?_ | refine N.forkYes (by decide) ?_ | fail_if_success skip)
  refine N.go ?_
  refine N_callM [2] _ (by kernel_rfl) (fun h₂ hh => mk_arM 2 ((hh 2 (by simp)).trans rfl) b.natAbs (bzW b) (Tryz.call43) (qs := [.pl (.int .i64 b)]) ⟨.pl rfl, trivial⟩ (fun _ => rfl) (wOf b hb)) fun v ms hR => ?_
  obtain ⟨κ2, hκ2, rfl, rfl⟩ := hR
  refine ⟨by simp, ?_⟩
  repeat' (refine N.go ?_; first | with_reducible refine N.obl (by decide) ?_ | with_reducible refine N.obl (flat_wi _ _ _) ?_ | with_reducible refine N.obl (flat_lim _ _) ?_ | with_reducible refine N.eq ?_ | with_reducible refine N.obl rfl ?_ | with_reducible refine N.obl ⟨by kernel_rfl, by kernel_rfl⟩ ?_ | with_reducible refine N.forkT ?_ | with_reducible refine N.forkF ?_ | refine N.forkNo (by decide) ?_ | refine N.forkYes (by decide) ?_ | fail_if_success skip)
  refine N.go ?_
  refine N_callM [2] _ (by kernel_rfl) (fun h₂ hh => mk_arM 2 ((hh 2 (by simp)).trans rfl) d.natAbs (bzW d) (Tryz.call43) (qs := [.pl (.int .i64 d)]) ⟨.pl rfl, trivial⟩ (fun _ => rfl) (wOf d hd)) fun v ms hR => ?_
  obtain ⟨κ3, hκ3, rfl, rfl⟩ := hR
  refine ⟨by simp, ?_⟩
  repeat' (refine N.go ?_; first | with_reducible refine N.obl (by decide) ?_ | with_reducible refine N.obl (flat_wi _ _ _) ?_ | with_reducible refine N.obl (flat_lim _ _) ?_ | with_reducible refine N.eq ?_ | with_reducible refine N.obl rfl ?_ | with_reducible refine N.obl ⟨by kernel_rfl, by kernel_rfl⟩ ?_ | with_reducible refine N.forkT ?_ | with_reducible refine N.forkF ?_ | refine N.forkNo (by decide) ?_ | refine N.forkYes (by decide) ?_ | fail_if_success skip)
  refine N.go ?_
  refine N_callM [2] _ (by kernel_rfl) (fun h₂ hh => mk_arM 2 ((hh 2 (by simp)).trans rfl) (a * d - b * b).natAbs (bzW (a * d - b * b)) (Tryz.call42) (qs := [.big (decide (a < 0)) κ1.v, .big (decide (b < 0)) κ2.v, .big (decide (d < 0)) κ3.v]) ⟨.big (.ar (by simp)), .big (.ar (by simp)), .big (.ar (by simp)), trivial⟩ (fun _ => rfl) (by rw [hκ1, hκ2, hκ3]; exact wDet3 a b d (by omega) (by omega))) fun v ms hR => ?_
  obtain ⟨κ4, hκ4, rfl, rfl⟩ := hR
  refine ⟨by simp, ?_⟩
  repeat' (refine N.go ?_; first | with_reducible refine N.obl (by decide) ?_ | with_reducible refine N.obl (flat_wi _ _ _) ?_ | with_reducible refine N.obl (flat_lim _ _) ?_ | with_reducible refine N.eq ?_ | with_reducible refine N.obl rfl ?_ | with_reducible refine N.obl ⟨by kernel_rfl, by kernel_rfl⟩ ?_ | with_reducible refine N.forkT ?_ | with_reducible refine N.forkF ?_ | refine N.obl (by show endB _ _ = Bool.true; kernel_rfl) ?_ | refine N.endM κ4 2 hκ4 rfl (by rfl) (by simp) | refine N.forkNo (by decide) ?_ | refine N.forkYes (by decide) ?_ | fail_if_success skip)
end Go.Proofs.YtdnkeeedcnjofaaGreatDoor


/-
  The document's MayE and Time.
-/
set_option linter.unusedVariables false
set_option linter.unusedSimpArgs false
namespace Go.Proofs.YtdnkeeedcnjofaaGreatDoor
open Go Go.RowKit Sx

set_option maxRecDepth 100000 in
set_option maxHeartbeats 2000000 in
theorem rwithin_x (n m : Int) (hm : 0 ≤ m ∧ m ≤ 1152921504606846976) (w : World) : Calls Tryz.prog 28 #[.int .i64 n, .int .i64 m] w fun e w' => e = .returned (.bool (decide (-m ≤ n ∧ n ≤ m))) ∧ Below w.heap.size w w' := by
  have hw := i64s (0 - m) (by omega) (by omega)
  refine calls_pure (G := tys) w tysOK mixed Tryz.func28 (by rfl) (by rfl) (by rfl) ?_
  repeat' (refine N.go ?_; first | with_reducible refine N.obl (by decide) ?_ | with_reducible refine N.obl (flat_wi _ _ _) ?_ | with_reducible refine N.obl (flat_lim _ _) ?_ | with_reducible refine N.eq ?_ | with_reducible refine N.obl rfl ?_ | with_reducible refine N.obl ⟨by kernel_rfl, by kernel_rfl⟩ ?_ | with_reducible refine N.alt ?_ | with_reducible refine N.forkT ?_ | with_reducible refine N.forkF ?_ | with_reducible refine N.fork (fun hb => ?_) (fun hb => ?_) | fail_if_success skip)
  all_goals try rw [hw] at *
  all_goals
    refine boolD ?_
    simp only [decide_eq_true_eq, decide_eq_false_iff_not, Bool.false_eq_true, false_iff, true_iff, iff_true, iff_false, reduceCtorEq, not_true_eq_false, not_false_eq_true, ge_iff_le, gt_iff_lt] at *
    omega
theorem cRWithin (n m : Int) (hm : 0 ≤ m ∧ m ≤ 1152921504606846976) (h : List (Option Chunk)) : CallOK Tryz.prog 28 [.int .i64 n, .int .i64 m] h (.bool (decide (-m ≤ n ∧ n ≤ m))) [] [] := call_pure rfl rfl (Tryz.call28 _) (rwithin_x n m hm)
set_option maxRecDepth 100000 in
set_option maxHeartbeats 2000000 in
theorem rmaypoint_x (x y : Int) (w : World) : Calls Tryz.prog 27 #[.agg #[.int .i64 x, .int .i64 y]] w fun e w' => e = .returned (.bool (decide (withinP 4194304 x y))) ∧ Below w.heap.size w w' := by
  refine calls_pure (G := tys) w tysOK mixed Tryz.func27 (by rfl) (by rfl) (by rfl) ?_
  repeat' (refine N.go ?_; first | with_reducible refine N.obl (by decide) ?_ | with_reducible refine N.obl (flat_wi _ _ _) ?_ | with_reducible refine N.obl (flat_lim _ _) ?_ | with_reducible refine N.eq ?_ | with_reducible refine N.obl rfl ?_ | with_reducible refine N.obl ⟨by kernel_rfl, by kernel_rfl⟩ ?_ | with_reducible refine N.alt ?_ | with_reducible refine N.forkT ?_ | with_reducible refine N.forkF ?_ | refine N.call (cRWithin _ _ (by decide) _) ?_ | with_reducible refine N.fork (fun hb => ?_) (fun hb => ?_) | fail_if_success skip)
  all_goals
    refine boolD ?_
    simp only [decide_eq_true_eq, decide_eq_false_iff_not, Bool.false_eq_true, false_iff, true_iff, iff_true, iff_false, reduceCtorEq, not_true_eq_false, not_false_eq_true, ge_iff_le, gt_iff_lt] at *
    try simp only [withinP] at *
    omega
theorem cRMayPoint (x y : Int) (h : List (Option Chunk)) : CallOK Tryz.prog 27 [.agg #[.int .i64 x, .int .i64 y]] h (.bool (decide (withinP 4194304 x y))) [] [] := call_pure rfl rfl (Tryz.call27 _) (rmaypoint_x x y)
theorem sgnI_pos (z : Int) : decide (sgnI z > 0) = decide (0 < z) := by
  unfold sgnI
  split
  · rw [decide_eq_false (by decide), decide_eq_false (by omega)]
  · split
    · rw [decide_eq_false (by decide), decide_eq_false (by omega)]
    · rw [decide_eq_true (by decide), decide_eq_true (by omega)]
set_option maxRecDepth 100000 in
set_option maxHeartbeats 2000000 in
theorem rmaye_x (x y a b d : Int) (w : World) : Calls Tryz.prog 15 #[.agg #[.int .i64 x, .int .i64 y, .int .i64 a, .int .i64 b, .int .i64 d]] w fun e w' => e = .returned (.bool (decide (mayP x y a b d))) ∧ Below w.heap.size w w' := by
  by_cases hr : withinP 4194304 x y ∧ (1 ≤ a ∧ a ≤ 70368744177664) ∧ (1 ≤ d ∧ d ≤ 70368744177664) ∧ (-70368744177664 ≤ b ∧ b ≤ 70368744177664)
  · obtain ⟨p1, ⟨p2, p3⟩, ⟨p4, p5⟩, p6, p7⟩ := hr
    have he : decide (mayP x y a b d) = decide (sgnI (a * d - b * b) > 0) := by
      rw [sgnI_pos, decide_eq_decide]
      unfold mayP
      exact ⟨fun h => h.2.2.2.2, fun h => ⟨p1, ⟨p2, p3⟩, ⟨p4, p5⟩, ⟨p6, p7⟩, h⟩⟩
    rw [he]
    refine calls_pure (G := tys) w tysOK mixed Tryz.func15 (by rfl) (by rfl) (by rfl) ?_
    repeat' (refine N.go ?_; first | with_reducible refine N.obl (by decide) ?_ | with_reducible refine N.obl (flat_wi _ _ _) ?_ | with_reducible refine N.obl (flat_lim _ _) ?_ | with_reducible refine N.eq ?_ | with_reducible refine N.obl rfl ?_ | with_reducible refine N.obl ⟨by kernel_rfl, by kernel_rfl⟩ ?_ | with_reducible refine N.alt ?_ | with_reducible refine N.forkT ?_ | with_reducible refine N.forkF ?_ | refine N.call (cRMayPoint _ _ _) ?_ | refine N.call (cRWithin _ _ (by decide) _) ?_ | refine N.call (cASign (a * d - b * b) _ _ _ _ hκ _) ?_ | refine N.forkYes (decide_eq_true (by assumption)) ?_ | refine N.forkNo (decide_eq_false (by assumption)) ?_ | refine N.forkYes (decide_eq_true (by omega)) ?_ | refine N.forkNo (decide_eq_false (by omega)) ?_ | fail_if_success skip)
    refine N.go ?_
    refine N.callAll (mk_arN 2 (by rfl) (a * d - b * b).natAbs (bzW (a * d - b * b)) (Tryz.call30) (qs := [.pl (.agg #[.int .i64 a, .int .i64 b, .int .i64 d])]) ⟨.pl rfl, trivial⟩ (fun _ => rfl) (wDet a b d ⟨by omega, by omega⟩ ⟨by omega, by omega⟩ ⟨by omega, by omega⟩)) fun v ms hR => ?_
    obtain ⟨κ, hκ, rfl, rfl⟩ := hR
    repeat' (refine N.go ?_; first | with_reducible refine N.obl (by decide) ?_ | with_reducible refine N.obl (flat_wi _ _ _) ?_ | with_reducible refine N.obl (flat_lim _ _) ?_ | with_reducible refine N.eq ?_ | with_reducible refine N.obl rfl ?_ | with_reducible refine N.obl ⟨by kernel_rfl, by kernel_rfl⟩ ?_ | with_reducible refine N.alt ?_ | with_reducible refine N.forkT ?_ | with_reducible refine N.forkF ?_ | refine N.call (cRMayPoint _ _ _) ?_ | refine N.call (cRWithin _ _ (by decide) _) ?_ | refine N.call (cASign (a * d - b * b) _ _ _ _ hκ _) ?_ | refine N.forkYes (decide_eq_true (by assumption)) ?_ | refine N.forkNo (decide_eq_false (by assumption)) ?_ | refine N.forkYes (decide_eq_true (by omega)) ?_ | refine N.forkNo (decide_eq_false (by omega)) ?_ | fail_if_success skip)
    all_goals rfl
  · have he : decide (mayP x y a b d) = false := by
      rw [decide_eq_false_iff_not]
      intro h
      unfold mayP at h
      exact hr ⟨h.1, h.2.1, h.2.2.1, h.2.2.2.1⟩
    rw [he]
    refine calls_pure (G := tys) w tysOK mixed Tryz.func15 (by rfl) (by rfl) (by rfl) ?_
    by_cases q1 : withinP 4194304 x y
    · by_cases q2 : 1 ≤ a
      · by_cases q3 : a ≤ 70368744177664
        · by_cases q4 : 1 ≤ d
          · by_cases q5 : d ≤ 70368744177664
            · have q6 : ¬ (-70368744177664 ≤ b ∧ b ≤ 70368744177664) := fun h => hr ⟨q1, ⟨q2, q3⟩, ⟨q4, q5⟩, h⟩
              repeat' (refine N.go ?_; first | with_reducible refine N.obl (by decide) ?_ | with_reducible refine N.obl (flat_wi _ _ _) ?_ | with_reducible refine N.obl (flat_lim _ _) ?_ | with_reducible refine N.eq ?_ | with_reducible refine N.obl rfl ?_ | with_reducible refine N.obl ⟨by kernel_rfl, by kernel_rfl⟩ ?_ | with_reducible refine N.alt ?_ | with_reducible refine N.forkT ?_ | with_reducible refine N.forkF ?_ | refine N.call (cRMayPoint _ _ _) ?_ | refine N.call (cRWithin _ _ (by decide) _) ?_ | refine N.forkYes (decide_eq_true (by assumption)) ?_ | refine N.forkNo (decide_eq_false (by assumption)) ?_ | refine N.forkYes (decide_eq_true (by omega)) ?_ | refine N.forkNo (decide_eq_false (by omega)) ?_ | fail_if_success skip)
              all_goals rfl
            · repeat' (refine N.go ?_; first | with_reducible refine N.obl (by decide) ?_ | with_reducible refine N.obl (flat_wi _ _ _) ?_ | with_reducible refine N.obl (flat_lim _ _) ?_ | with_reducible refine N.eq ?_ | with_reducible refine N.obl rfl ?_ | with_reducible refine N.obl ⟨by kernel_rfl, by kernel_rfl⟩ ?_ | with_reducible refine N.alt ?_ | with_reducible refine N.forkT ?_ | with_reducible refine N.forkF ?_ | refine N.call (cRMayPoint _ _ _) ?_ | refine N.call (cRWithin _ _ (by decide) _) ?_ | refine N.forkYes (decide_eq_true (by assumption)) ?_ | refine N.forkNo (decide_eq_false (by assumption)) ?_ | refine N.forkYes (decide_eq_true (by omega)) ?_ | refine N.forkNo (decide_eq_false (by omega)) ?_ | fail_if_success skip)
              all_goals rfl
          · repeat' (refine N.go ?_; first | with_reducible refine N.obl (by decide) ?_ | with_reducible refine N.obl (flat_wi _ _ _) ?_ | with_reducible refine N.obl (flat_lim _ _) ?_ | with_reducible refine N.eq ?_ | with_reducible refine N.obl rfl ?_ | with_reducible refine N.obl ⟨by kernel_rfl, by kernel_rfl⟩ ?_ | with_reducible refine N.alt ?_ | with_reducible refine N.forkT ?_ | with_reducible refine N.forkF ?_ | refine N.call (cRMayPoint _ _ _) ?_ | refine N.call (cRWithin _ _ (by decide) _) ?_ | refine N.forkYes (decide_eq_true (by assumption)) ?_ | refine N.forkNo (decide_eq_false (by assumption)) ?_ | refine N.forkYes (decide_eq_true (by omega)) ?_ | refine N.forkNo (decide_eq_false (by omega)) ?_ | fail_if_success skip)
            all_goals rfl
        · repeat' (refine N.go ?_; first | with_reducible refine N.obl (by decide) ?_ | with_reducible refine N.obl (flat_wi _ _ _) ?_ | with_reducible refine N.obl (flat_lim _ _) ?_ | with_reducible refine N.eq ?_ | with_reducible refine N.obl rfl ?_ | with_reducible refine N.obl ⟨by kernel_rfl, by kernel_rfl⟩ ?_ | with_reducible refine N.alt ?_ | with_reducible refine N.forkT ?_ | with_reducible refine N.forkF ?_ | refine N.call (cRMayPoint _ _ _) ?_ | refine N.call (cRWithin _ _ (by decide) _) ?_ | refine N.forkYes (decide_eq_true (by assumption)) ?_ | refine N.forkNo (decide_eq_false (by assumption)) ?_ | refine N.forkYes (decide_eq_true (by omega)) ?_ | refine N.forkNo (decide_eq_false (by omega)) ?_ | fail_if_success skip)
          all_goals rfl
      · repeat' (refine N.go ?_; first | with_reducible refine N.obl (by decide) ?_ | with_reducible refine N.obl (flat_wi _ _ _) ?_ | with_reducible refine N.obl (flat_lim _ _) ?_ | with_reducible refine N.eq ?_ | with_reducible refine N.obl rfl ?_ | with_reducible refine N.obl ⟨by kernel_rfl, by kernel_rfl⟩ ?_ | with_reducible refine N.alt ?_ | with_reducible refine N.forkT ?_ | with_reducible refine N.forkF ?_ | refine N.call (cRMayPoint _ _ _) ?_ | refine N.call (cRWithin _ _ (by decide) _) ?_ | refine N.forkYes (decide_eq_true (by assumption)) ?_ | refine N.forkNo (decide_eq_false (by assumption)) ?_ | refine N.forkYes (decide_eq_true (by omega)) ?_ | refine N.forkNo (decide_eq_false (by omega)) ?_ | fail_if_success skip)
        all_goals rfl
    · repeat' (refine N.go ?_; first | with_reducible refine N.obl (by decide) ?_ | with_reducible refine N.obl (flat_wi _ _ _) ?_ | with_reducible refine N.obl (flat_lim _ _) ?_ | with_reducible refine N.eq ?_ | with_reducible refine N.obl rfl ?_ | with_reducible refine N.obl ⟨by kernel_rfl, by kernel_rfl⟩ ?_ | with_reducible refine N.alt ?_ | with_reducible refine N.forkT ?_ | with_reducible refine N.forkF ?_ | refine N.call (cRMayPoint _ _ _) ?_ | refine N.call (cRWithin _ _ (by decide) _) ?_ | refine N.forkYes (decide_eq_true (by assumption)) ?_ | refine N.forkNo (decide_eq_false (by assumption)) ?_ | refine N.forkYes (decide_eq_true (by omega)) ?_ | refine N.forkNo (decide_eq_false (by omega)) ?_ | fail_if_success skip)
      all_goals rfl
theorem cMayE (x y a b d : Int) (h : List (Option Chunk)) : CallOK Tryz.prog 15 [.agg #[.int .i64 x, .int .i64 y, .int .i64 a, .int .i64 b, .int .i64 d]] h (.bool (decide (mayP x y a b d))) [] [] := call_pure rfl rfl (Tryz.call15 _) (rmaye_x x y a b d)
end Go.Proofs.YtdnkeeedcnjofaaGreatDoor


/-
  The walk of slices.Clone at bytes.
-/
set_option linter.unusedVariables false
namespace Go.Proofs.YtdnkeeedcnjofaaGreatDoor
open Go.RowKit

theorem Tryz.info_u8 : (Tryz.prog.info? 5).map (fun i => (i.zero, i.size, i.bytes)) = some (some (.int .u8 0), 1, 1) := by kernel_rfl

theorem eql_nil {P : Program} (w : World) (t e : TypeId) (a : Option Addr) (l c : Nat) (h : P.underlying t = some (.slice e)) : (binOp .eql t (.slice a l c) (.slice none 0 0)).run P w = .ok (.bool a.isNone) w := by
  simp [binOp, run_equal_slice_nil w t e a l c h]

theorem ownsRow_mono {w : World} {base base' : Nat} {e : TypeId} {size : Nat} {v : Value} {n : Nat} {xs : List Value} (h : w.ownsRow base e size v n xs) (hb : base' ≤ base) : w.ownsRow base' e size v n xs := by
  obtain ⟨h1, h2⟩ := h
  refine ⟨h1, ?_⟩
  rcases h2 with h2 | ⟨g, cap, cur, hv, hg, r⟩
  · exact .inl h2
  · exact .inr ⟨g, cap, cur, hv, by omega, r⟩

end Go.Proofs.YtdnkeeedcnjofaaGreatDoor


/-
  Memory at real addresses: all that was there at the beginning, and byte strings of our own.
-/
set_option linter.unusedVariables false
set_option linter.unusedSimpArgs false
namespace Go.Proofs.YtdnkeeedcnjofaaGreatDoor.Sx
open Go Go.RowKit

/-- A slice at a real address (sp: a place between cells, as an empty slice may have). -/
structure Sl where
  b : Nat
  o : Nat
  n : Nat
  c : Nat
  sp : Option Nat
/-- A slice, or none: as it is, and as it is written here. -/
def uR : Option Sl → Value
  | none => .slice none 0 0
  | some s => .slice (some ⟨s.b, s.o, s.sp⟩) s.n s.c
abbrev uV (u : Option Sl) : Value := .iface 99999999 (uR u)
theorem uR_sl (u : Option Sl) : ∃ a l c, uR u = .slice a l c := by cases u with
  | none => exact ⟨_, _, _, rfl⟩
  | some s => exact ⟨_, _, _, rfl⟩
theorem uV_den0 (u : Option Sl) (ρ : Nat → Nat × Nat) : den0 ρ (uV u) = uR u := by
  obtain ⟨a, l, c, e⟩ := uR_sl u
  rw [uV, e]; rfl
theorem uV_den1 (u : Option Sl) (ρ : Nat → Nat × Nat) : den1 ρ (uV u) = uR u := uV_den0 u ρ
theorem uV_den (u : Option Sl) (ρ : Nat → Nat × Nat) : den ρ (uV u) = uR u := uV_den0 u ρ
theorem uV_one (u : Option Sl) : (uV u).oneCell' = true := rfl
theorem uV_re1 (u : Option Sl) {ix : List (Nat × Nat)} : Re1 ix (uV u) (uV u) := .quo
def uN : Option Sl → Nat
  | none => 0
  | some s => s.n
/-- Bytes of our own: their block, the room, what they are. -/
structure By where
  b : Nat
  c : Nat
  bs : List Int
abbrev By.s (e : By) : Option Sl := some ⟨e.b, 0, e.bs.length, e.c, none⟩
/-- The bytes that a slice shows. -/
def BsIn (w : World) (u : Option Sl) (bs : List Int) : Prop := bs.length = uN u ∧ ∀ s, u = some s → (s.sp = none ∨ s.n = 0) ∧ ∀ j, j < bs.length → w.cell? ⟨s.b, s.o + j, none⟩ = some (.int .u8 (bs.getD j 0))
structure ByAt (w : World) (e : By) : Prop where
  lt : e.b < w.heap.size
  cell : ∀ j, j < e.bs.length → w.cell? ⟨e.b, j, none⟩ = some (.int .u8 (e.bs.getD j 0))
  own : ∀ j, j < e.bs.length → w.frozen? ⟨e.b, j, none⟩ = false
theorem cellM_same {w w' : World} {b o : Nat} (h : w'.heap[b]? = w.heap[b]?) : w'.cell? ⟨b, o, none⟩ = w.cell? ⟨b, o, none⟩ := by
  simp only [World.cell?, h]
theorem frozM_same {w w' : World} {b o : Nat} (h : w'.heap[b]? = w.heap[b]?) : w'.frozen? ⟨b, o, none⟩ = w.frozen? ⟨b, o, none⟩ := by
  simp only [World.frozen?, h]
theorem lt_same {w w' : World} {b : Nat} (hl : b < w.heap.size) (h : w'.heap[b]? = w.heap[b]?) : b < w'.heap.size := by
  have : w.heap[b]? = some (w.heap[b]'hl) := Array.getElem?_eq_getElem hl
  rw [this] at h
  exact (Array.getElem?_eq_some_iff.1 h).1
theorem cell_lt {w : World} {b o : Nat} {v : Value} (h : w.cell? ⟨b, o, none⟩ = some v) : b < w.heap.size := World.block_lt_of_cell? _ _ h
theorem ByAt.keep {w w' : World} {e : By} (h : ByAt w e) (hb : w'.heap[e.b]? = w.heap[e.b]?) : ByAt w' e :=
  ⟨lt_same h.lt hb, fun j hj => (cellM_same hb).trans (h.cell j hj), fun j hj => (frozM_same hb).trans (h.own j hj)⟩
structure MemOK (W : World) (F : List By) (p : Nat × Nat) (S : Nat → Prop) (w : World) : Prop where
  at_ : p.1 < W.heap.size
  dom : ∀ b, S b ↔ b < W.heap.size ∨ ∃ e ∈ F, e.b = b
  size : W.heap.size ≤ w.heap.size
  old : ∀ b, b < W.heap.size → w.heap[b]? = W.heap[b]?
  nodup : (F.map By.b).Nodup
  cell : ∀ e ∈ F, W.heap.size ≤ e.b ∧ ByAt w e
abbrev memX (W : World) (F : List By) : Ext where
  inv := fun p S w => MemOK W F p S w
  keep := fun {p S w w'} h hb => ⟨h.at_, h.dom, by
      have h1 := h.at_
      have h2 := hb (W.heap.size - 1) ((h.dom _).2 (.inl (by omega)))
      have h3 := lt_same (b := W.heap.size - 1) (w := w) (by have := h.size; omega) h2
      omega, fun b hl => (hb b ((h.dom b).2 (.inl hl))).trans (h.old b hl), h.nodup, fun e he => ⟨(h.cell e he).1, (h.cell e he).2.keep (hb _ ((h.dom _).2 (.inr ⟨e, he, rfl⟩)))⟩⟩
/-- All old memory, and byte strings. -/
abbrev memC (W : World) (F : List By) : Chunk := @Chunk.mk (memX W F) true 0 []
theorem memX_selfish {W : World} {F : List By} : Selfish (memX W F) := fun p S w h => (h.dom _).2 (.inl h.at_)
theorem memC_ne (W : World) (F : List By) : (memC W F).x ≠ Ext.none := fun e => by
  have h1 : ∀ p S w, (memC W F).x.inv p S w → S p.1 := fun p S w h => memX_selfish p S w h
  rw [e] at h1
  exact (h1 (0, 0) (fun _ => False) default fun _ h => h).elim
/-- A slice whose bytes are known: none, our own, or old. -/
inductive Src (W : World) (F : List By) : Option Sl → List Int → Prop
  | nil : Src W F none []
  | own {e : By} (he : e ∈ F) : Src W F e.s e.bs
  | old {s : Sl} {bs : List Int} (hn : bs.length = s.n) (hs : s.sp = none ∨ s.n = 0) (hc : ∀ j, j < bs.length → W.cell? ⟨s.b, s.o + j, none⟩ = some (.int .u8 (bs.getD j 0))) : Src W F (some s) bs
theorem MemOK.src {W : World} {F : List By} {p : Nat × Nat} {S : Nat → Prop} {w : World} (M : MemOK W F p S w) {u : Option Sl} {bs : List Int} (h : Src W F u bs) : BsIn w u bs := by
  cases h with
  | nil => exact ⟨rfl, fun s hs => by cases hs⟩
  | own he =>
    refine ⟨rfl, fun s hs => ⟨?_, fun j hj => ?_⟩⟩
    · cases hs; exact .inl rfl
    cases hs
    show w.cell? ⟨_, 0 + j, none⟩ = _
    rw [Nat.zero_add]
    exact (M.cell _ he).2.cell j hj
  | old hn hsp hc =>
    refine ⟨hn, fun s hs => ⟨?_, fun j hj => ?_⟩⟩
    · cases hs; exact hsp
    cases hs
    have h1 := hc j hj
    rw [← h1]
    exact cellM_same (M.old _ (cell_lt h1))
theorem Src.more {W : World} {F F' : List By} (hF : ∀ e ∈ F, e ∈ F') {u : Option Sl} {bs : List Int} (h : Src W F u bs) : Src W F' u bs := by
  cases h with
  | nil => exact .nil
  | own he => exact .own (hF _ he)
  | old hn hsp hc => exact .old hn hsp hc
/-- What a copy of bytes makes of memory. -/
inductive Made (F : List By) (bs : List Int) : Option Sl → List By → Prop
  | nil : bs = [] → Made F bs none F
  | new {b c : Nat} (hb : b ∉ F.map By.b) : Made F bs (By.mk b c bs).s (⟨b, c, bs⟩ :: F)
theorem Made.src {W : World} {F F' : List By} {bs : List Int} {u : Option Sl} (h : Made F bs u F') : Src W F' u bs := by
  cases h with
  | nil h => subst h; exact .nil
  | new hb => exact .own (List.mem_cons_self ..)
theorem Made.sub {F F' : List By} {bs : List Int} {u : Option Sl} (h : Made F bs u F') : ∀ e ∈ F, e ∈ F' := by
  cases h with
  | nil h => exact fun e he => he
  | new hb => exact fun e he => List.mem_cons_of_mem _ he
section
variable {X : Ctx} {ρ : Nat → Nat × Nat} {h : List (Option Chunk)} {w w' : World}
theorem mem_more {i : Nat} {W : World} {F : List By} {e : By} (H : HOK X ρ h w) (hi : h[i]? = some (some (memC W F))) (hB : Below w.heap.size w w') (he : ByAt w' e) (hge : w.heap.size ≤ e.b) : e.b ∉ F.map By.b ∧ HOK X ρ (h.set i (some (memC W (e :: F)))) w' := by
  obtain ⟨S, E⟩ := H.ext
  have M : MemOK W F (ρ i) (S i) w := E.inv i _ hi
  have hno : e.b ∉ F.map By.b := fun hm => by
    obtain ⟨x, hx, hxb⟩ := List.mem_map.1 hm
    have := (M.cell x hx).2.lt
    omega
  refine ⟨hno, H.turnX E hi (d := memC W (e :: F)) (S' := fun b => S i b ∨ b = e.b) id (Nat.le_refl _) (fun j hj => absurd hj (Nat.not_lt_zero j)) hB.os hB.tape hB.output hB.size (fun b hb _ => hB.block b hb) (fun b hb => ?_) ?_⟩
  · rcases hb with hb | rfl
    · exact ⟨Nat.lt_of_lt_of_le (E.mine i _ b hi hb).2.1 hB.size, .inl rfl, .inl hb⟩
    · exact ⟨he.lt, .inl rfl, .inr hge⟩
  · refine ⟨M.at_, fun b => ⟨fun hb => ?_, fun hb => ?_⟩, Nat.le_trans M.size hB.size, fun b hb => (hB.block b (Nat.lt_of_lt_of_le hb M.size)).trans (M.old b hb), ?_, fun x hx => ?_⟩
    · rcases hb with hb | rfl
      · rcases (M.dom b).1 hb with hb | ⟨x, hx, hxb⟩
        · exact .inl hb
        · exact .inr ⟨x, List.mem_cons_of_mem _ hx, hxb⟩
      · exact .inr ⟨e, List.mem_cons_self .., rfl⟩
    · rcases hb with hb | ⟨x, hx, rfl⟩
      · exact .inl ((M.dom b).2 (.inl hb))
      · rcases List.mem_cons.1 hx with rfl | hx
        · exact .inr rfl
        · exact .inl ((M.dom _).2 (.inr ⟨x, hx, rfl⟩))
    · rw [List.map_cons, List.nodup_cons]; exact ⟨hno, M.nodup⟩
    · rcases List.mem_cons.1 hx with rfl | hx
      · exact ⟨Nat.le_trans M.size hge, he⟩
      · exact ⟨(M.cell x hx).1, (M.cell x hx).2.keep (hB.block _ (M.cell x hx).2.lt)⟩
end
/-- A byte is turned. -/
def setB (F : List By) (b j : Nat) (v : Int) : List By := F.map fun e => if e.b = b then ⟨e.b, e.c, e.bs.set j v⟩ else e
theorem setB_b (F : List By) (b j : Nat) (v : Int) : (setB F b j v).map By.b = F.map By.b := by
  unfold setB
  rw [List.map_map]
  refine List.map_congr_left fun e _ => ?_
  show (if e.b = b then (⟨e.b, e.c, e.bs.set j v⟩ : By) else e).b = e.b
  split <;> rfl
theorem setB_other {F : List By} {b j : Nat} {v : Int} {e : By} (he : e ∈ F) (hb : e.b ≠ b) : e ∈ setB F b j v := List.mem_map.2 ⟨e, he, if_neg hb⟩
theorem setB_same {F : List By} {j : Nat} {v : Int} {e : By} (he : e ∈ F) : (⟨e.b, e.c, e.bs.set j v⟩ : By) ∈ setB F e.b j v := List.mem_map.2 ⟨e, he, if_pos rfl⟩
theorem nodup_eq {F : List By} (h : (F.map By.b).Nodup) {x y : By} (hx : x ∈ F) (hy : y ∈ F) (e : x.b = y.b) : x = y := by
  induction F with
  | nil => cases hx
  | cons a r ih =>
    rw [List.map_cons, List.nodup_cons] at h
    rcases List.mem_cons.1 hx with h1 | hx <;> rcases List.mem_cons.1 hy with h2 | hy
    · rw [h1, h2]
    · rw [h1] at e; exact absurd (List.mem_map.2 ⟨y, hy, e.symm⟩) h.1
    · rw [h2] at e; exact absurd (List.mem_map.2 ⟨x, hx, e⟩) h.1
    · exact ih h.2 hx hy
section
variable {X : Ctx} {ρ : Nat → Nat × Nat} {h : List (Option Chunk)} {w : World}
theorem mem_store {i j : Nat} {W : World} {F : List By} {e : By} {v : Int} (H : HOK X ρ h w) (hi : h[i]? = some (some (memC W F))) (he : e ∈ F) (hj : j < e.bs.length) : w.frozen? ⟨e.b, j, none⟩ = false ∧ (∃ x, w.cell? ⟨e.b, j, none⟩ = some x) ∧ HOK X ρ (h.set i (some (memC W (setB F e.b j v)))) (w.setCell ⟨e.b, j, none⟩ (.int .u8 v)) := by
  obtain ⟨S, E⟩ := H.ext
  have M : MemOK W F (ρ i) (S i) w := E.inv i _ hi
  obtain ⟨hge, hat⟩ := M.cell e he
  have hsz : (w.setCell ⟨e.b, j, none⟩ (.int .u8 v)).heap.size = w.heap.size := by simp [World.setCell]
  have hbl : ∀ b, b ≠ e.b → (w.setCell ⟨e.b, j, none⟩ (.int .u8 v)).heap[b]? = w.heap[b]? := fun b hb => Below.heap_setCell w _ _ b hb
  refine ⟨hat.own j hj, ⟨_, hat.cell j hj⟩, H.turnX E hi (d := memC W (setB F e.b j v)) (S' := S i) id (Nat.le_refl _) (fun j hj => absurd hj (Nat.not_lt_zero j)) rfl rfl rfl (Nat.le_of_eq hsz.symm) (fun b hb hS => hbl b fun eb => hS ((M.dom b).2 (.inr ⟨e, he, eb.symm⟩))) (fun b hb => ?_) ?_⟩
  · exact ⟨by rw [hsz]; exact (E.mine i _ b hi hb).2.1, .inl rfl, .inl hb⟩
  · refine ⟨M.at_, fun b => (M.dom b).trans ⟨fun hb => ?_, fun hb => ?_⟩, by rw [hsz]; exact M.size, fun b hb => (hbl b (by omega)).trans (M.old b hb), by rw [setB_b]; exact M.nodup, fun x hx => ?_⟩
    · rcases hb with hb | ⟨x, hx, rfl⟩
      · exact .inl hb
      · by_cases ex : x.b = e.b
        · exact .inr ⟨_, setB_same (j := j) (v := v) he, ex.symm⟩
        · exact .inr ⟨x, setB_other hx ex, rfl⟩
    · rcases hb with hb | ⟨x, hx, rfl⟩
      · exact .inl hb
      · have : x.b ∈ F.map By.b := by rw [← setB_b F e.b j v]; exact List.mem_map.2 ⟨x, hx, rfl⟩
        obtain ⟨y, hy, hyb⟩ := List.mem_map.1 this
        exact .inr ⟨y, hy, hyb⟩
    · obtain ⟨y, hy, rfl⟩ := List.mem_map.1 hx
      by_cases ey : y.b = e.b
      · obtain rfl := nodup_eq M.nodup hy he ey
        rw [if_pos rfl]
        refine ⟨hge, by rw [hsz]; exact hat.lt, fun k hk => ?_, fun k hk => ?_⟩
        · have hk : k < y.bs.length := by simpa using hk
          by_cases ek : k = j
          · subst ek
            rw [World.cell?_setCell_same w _ _ (hat.cell k hj)]
            show some (Value.int .u8 v) = some (.int .u8 ((y.bs.set k v).getD k 0))
            rw [List.getD_eq_getElem?_getD, List.getElem?_set_self hj]; rfl
          · rw [World.cell?_setCell_other w _ _ _ (by intro e'; simp only [Addr.mk.injEq] at e'; omega), hat.cell k hk]
            show some (Value.int .u8 (y.bs.getD k 0)) = some (.int .u8 ((y.bs.set j v).getD k 0))
            rw [List.getD_eq_getElem?_getD, List.getD_eq_getElem?_getD, List.getElem?_set_ne (fun h => ek h.symm)]
        · have hk : k < y.bs.length := by simpa using hk
          rw [World.frozen?_setCell]; exact hat.own k hk
      · rw [if_neg ey]
        exact ⟨(M.cell y hy).1, (M.cell y hy).2.keep (hbl _ ey)⟩
end

/-! ### Operations at real addresses -/
section
variable {P : Program} {G : Tys} {o : Oper} {st : St}
theorem ev_real {X : Ctx} {ρ : Nat → Nat × Nat} {st : St} {a : Act} {w : World} {x : Operand} {v : Value} (h : EvTo x st v) (hp : plain2 v = true) (R : Rel X ρ st a w) : a.eval x = v := by
  rw [← (h.den R).self, den_plain hp]
theorem N.op {slot : Nat} {K : Value → List (Nat × Chunk) → List Nat → Prop} {v : Value} {ms : List (Nat × Chunk)} {rh : List Nat} (h : OKs P o st v ms rh) (k : K v ms rh) : N (OpN P o st slot K) := N.mk ⟨v, ms, rh, h, k⟩
theorem ok_idxR {t : TypeId} {x y : Operand} {b f l c sz g : Nat} {a : Int} {k : IntKind} {v : Value} (hG : TysOK P G) (ho : o.op = .indexAddr t x y) (hx : EvTo x st v) (hxv : ∀ ρ, den ρ v = .slice (some ⟨b, f, none⟩) l c) (hy : EvTo y st (.int k a))
    (ht : lookT G t fun _ d => match d with | .slice e => lookT G e fun ei _ => ei.size = sz | _ => False) (h0 : 0 ≤ a) (hn : a < l) (hg : f + a.toNat * sz = g) : OKs P o st (.pointer (some ⟨b, g, none⟩)) [] [] := fun st₂ hs _ _ =>
  eff_pure fun X ρ act w R => by
    subst hg
    have hx' : act.eval x = .slice (some ⟨b, f, none⟩) l c := by rw [← ((hs x (by simp [ho, Op.operands]) _ hx).den R).self, hxv]
    have hy' := ev_real (hs y (by simp [ho, Op.operands]) _ hy) rfl R
    obtain ⟨i, d, _, h1, hd⟩ := lookT_out hG ht
    split at hd
    · obtain ⟨ei, ed, h2, _, rfl⟩ := lookT_out hG hd
      refine ⟨_, ?_, Den.plain rfl⟩
      simp only [execOp, ho, hx', hy', Instr.indexAt, asIntOf, underlying, Sem.run_bind, run_program, Result.andThen_ok, h1, Sem.run_pure, h0, hn, and_self, if_true, run_sizeOf h2, add_at, Nat.add_assoc]
    · exact hd.elim
/-- What a cell holds, by what is known of memory. -/
def Known (W : World) (F : List By) (b f : Nat) (v : Value) : Prop := ∀ p S w, MemOK W F p S w → w.cell? ⟨b, f, none⟩ = some v
theorem known_old {W : World} {F : List By} {b f : Nat} {v : Value} (h : W.cell? ⟨b, f, none⟩ = some v) : Known W F b f v := fun p S w M => by
  rw [← h]; exact cellM_same (M.old _ (cell_lt h))
theorem known_src {W : World} {F : List By} {s : Sl} {bs : List Int} (h : Src W F (some s) bs) {j f : Nat} (hj : j < bs.length) (hf : f = s.o + j) : Known W F s.b f (.int .u8 (bs.getD j 0)) := fun p S w M => by
  subst hf; exact ((M.src h).2 s rfl).2 j hj
theorem ok_loadR {t : TypeId} {x : Operand} {b f i : Nat} {W : World} {F : List By} {v : Value} (hG : TysOK P G) (ho : o.op = .load t x) (hx : EvTo x st (.pointer (some ⟨b, f, none⟩))) (hi : st.h[i]? = some (some (memC W F)))
    (ht : lookT G t fun _ d => isAggD d = false) (hp : plain1 v = true) (hk : Known W F b f v) : OKs P o st v [] [i] := fun st₂ hs hh _ =>
  eff_pure fun X ρ a w R => by
    have hi2 : st₂.h[i]? = some (some (memC W F)) := (hh i (by simp)).trans hi
    have hx' := ev_real (hs x (by simp [ho, Op.operands]) _ hx) rfl R
    obtain ⟨ti, d, _, h2, hd⟩ := lookT_out hG ht
    obtain ⟨S, E⟩ := R.heap.ext
    have hy := hk _ _ _ (E.inv i _ hi2)
    refine ⟨v, ?_, fun r _ => ?_⟩
    · simp only [execOp, ho, hx', Instr.loadAt, Instr.sureAddr, loadVar, Sem.run_bind, Sem.run_pure, Result.andThen_ok, run_isAgg h2, hd, Bool.false_eq_true, if_false, run_load, hy]
    · cases v <;> first | exact den_plain (by exact hp) r | (simp [plain1] at hp)
theorem ok_loadRA {t : TypeId} {x : Operand} {b f i sz : Nat} {W : World} {F : List By} {cs : List Value} (hG : TysOK P G) (ho : o.op = .load t x) (hx : EvTo x st (.pointer (some ⟨b, f, none⟩))) (hi : st.h[i]? = some (some (memC W F)))
    (ht : lookT G t fun ti d => isAggD d = true ∧ ti.size = sz) (hp : cs.all plain1 = true) (hl : cs.length = sz) (hk : ∀ j v, cs[j]? = some v → Known W F b (f + j) v) : OKs P o st (.agg ⟨cs⟩) [] [i] := fun st₂ hs hh _ =>
  eff_pure fun X ρ a w R => by
    have hi2 : st₂.h[i]? = some (some (memC W F)) := (hh i (by simp)).trans hi
    have hx' := ev_real (hs x (by simp [ho, Op.operands]) _ hx) rfl R
    obtain ⟨ti, d, h1, h2, hd, rfl⟩ := lookT_out hG ht
    obtain ⟨S, E⟩ := R.heap.ext
    have hcells : ∀ j v, cs[j]? = some v → w.cell? ((⟨b, f, none⟩ : Addr).add j) = some v := fun j v hv => by
      rw [add_at]; exact hk j v hv _ _ _ (E.inv i _ hi2)
    refine ⟨.agg ⟨cs⟩, ?_, Den.plain hp⟩
    simp only [execOp, ho, hx', Instr.loadAt, Instr.sureAddr, loadVar, Sem.run_bind, Sem.run_pure, Result.andThen_ok, run_isAgg h2, hd, if_true, run_sizeOf h1]
    rw [← hl, run_loadCells_list _ _ _ hcells]
    rfl
theorem ok_storeB {t : TypeId} {x y : Operand} {i j : Nat} {W : World} {F : List By} {e : By} {v : Int} (hG : TysOK P G) (ho : o.op = .store t x y) (hx : EvTo x st (.pointer (some ⟨e.b, j, none⟩))) (hy : EvTo y st (.int .u8 v)) (hi : st.h[i]? = some (some (memC W F)))
    (ht : lookT G t fun ti _ => ti.size = 1) (he : e ∈ F) (hj : j < e.bs.length) : OKs P o st undef [(i, memC W (setB F e.b j v))] [] := fun st₂ hs _ hh =>
  eff_skip fun X ρ a w R => by
    have hi2 : st₂.h[i]? = some (some (memC W F)) := (hh _ (List.mem_singleton.2 rfl)).trans hi
    have hx' := ev_real (hs x (by simp [ho, Op.operands]) _ hx) rfl R
    have hy' := ev_real (hs y (by simp [ho, Op.operands]) _ hy) rfl R
    obtain ⟨ti, d, h1, h2, hsz⟩ := lookT_out hG ht
    obtain ⟨hfr, ⟨z, hz⟩, H'⟩ := mem_store (v := v) R.heap hi2 he hj
    refine ⟨ρ, _, ?_, AgreeOn.refl _ _, H'⟩
    have hst : (store ⟨e.b, j, none⟩ (.int .u8 v)).run P w = .ok () (w.setCell ⟨e.b, j, none⟩ (.int .u8 v)) := by
      rw [run_store P w _ _ _ rfl]; simp [hz, hfr]
    have hadd : (⟨e.b, j, none⟩ : Addr).add 0 = ⟨e.b, j, none⟩ := by rw [add_at, Nat.add_zero]
    simp only [execOp, ho, hx', hy', Instr.storeAt, Instr.sureAddr, storeVar, Sem.run_bind, Sem.run_pure, Result.andThen_ok, run_sizeOf h1, hsz]
    simp [Value.cells, storeCells, hadd, hst, Sem.run_bind, Sem.run_pure]
/-- Bytes at a real address, as a string. -/
theorem ok_strR {s d : TypeId} {x : Operand} {i : Nat} {W : World} {F : List By} {u : Option Sl} {bs : List Int} (hG : TysOK P G) (ho : o.op = .convert s d x) (hx : EvTo x st (uV u)) (hi : st.h[i]? = some (some (memC W F)))
    (ht : lookT G s fun _ sd => match sd with | .slice e => lookT G e fun _ ed => ed = .int .u8 | _ => False) (hd : lookT G d fun _ dd => dd = .string) (hs : Src W F u bs) : OKs P o st (.string (strOfNums bs)) [] [i] := fun st₂ hs2 hh _ =>
  eff_pure fun X ρ a w R => by
    have hi2 : st₂.h[i]? = some (some (memC W F)) := (hh i (by simp)).trans hi
    have hx' : a.eval x = uR u := by rw [← ((hs2 x (by simp [ho, Op.operands]) _ hx).den R).self, uV_den]
    obtain ⟨_, sd, _, h1, ht⟩ := lookT_out hG ht
    obtain ⟨_, dd, _, h2, rfl⟩ := lookT_out hG hd
    obtain ⟨S, E⟩ := R.heap.ext
    have hb := (show MemOK W F (ρ i) (S i) w from E.inv i _ hi2).src hs
    split at ht
    · obtain ⟨_, ed, _, h3, rfl⟩ := lookT_out hG ht
      refine ⟨_, ?_, Den.plain rfl⟩
      simp only [execOp, ho, hx', Sem.run_bind, Sem.run_pure, Result.andThen_ok]
      cases u with
      | none =>
        obtain rfl : bs = [] := List.length_eq_zero_iff.1 hb.1
        rw [show uR none = .slice none 0 0 from rfl, run_convert_bytes_nil (w := w) s _ h1 h3 0 0 d h2]
        rfl
      | some q =>
        obtain ⟨qb, qo, qn, qc, sp⟩ := q
        have hn : bs.length = qn := hb.1
        rcases (hb.2 _ rfl).1 with hsp | hsp
        · have hsp : sp = none := hsp
          subst hsp
          rw [show uR (some ⟨qb, qo, qn, qc, none⟩) = .slice (some ⟨qb, qo, none⟩) qn qc from rfl, run_convert_bytes_arg w s _ h1 h3 qb qo qn qc bs hn (fun j hj => (hb.2 _ rfl).2 j (by omega)) d h2]
          rfl
        · have hsp : qn = 0 := hsp
          subst hsp
          obtain rfl : bs = [] := List.length_eq_zero_iff.1 hn
          have hl : (loadCells ⟨qb, qo, sp⟩ 0).run P w = .ok (([] : List Int).map (Value.int .u8)).toArray w := by simpa using run_loadCells_list (P := P) w ⟨qb, qo, sp⟩ [] (by simp)
          rw [show uR (some ⟨qb, qo, 0, qc, sp⟩) = .slice (some ⟨qb, qo, sp⟩) 0 qc from rfl, run_convert_bytes_string w s d _ _ 0 qc h1 h3 h2, run_bytesToString w _ 0 qc [] hl]
          rfl
    · exact ht.elim
/-- The length of a slice in memory. -/
theorem ok_lenU {x : Operand} {ts : Array TypeId} {u : Option Sl} (ho : o.op = .call ⟨.builtin .len, ⟨[x]⟩, ts⟩) (hx : EvTo x st (uV u)) (ht : ∃ t, ts = #[t] ∧ ∃ e, P.underlying t = some (.slice e)) : OKs P o st (.int .i64 (uN u : Nat)) [] [] := fun st₂ hs2 hh _ =>
  eff_pure fun X ρ a w R => by
    have hx' : a.eval x = uR u := by rw [← ((hs2 x (by simp [ho, Op.operands, Call.operands]) _ hx).den R).self, uV_den]
    obtain ⟨t, rfl, e, he⟩ := ht
    refine ⟨.int .i64 (uN u : Nat), ?_, Den.plain rfl⟩
    cases u with
    | none =>
      simp [execOp, ho, resolve, invoke, builtin, hx', uR, uN, Builtin.len_, Sem.run_bind, Sem.run_pure, Result.andThen_ok, run_underlying he, Builtin.lenOf]
      rfl
    | some s =>
      simp [execOp, ho, resolve, invoke, builtin, hx', uR, uN, Builtin.len_, Sem.run_bind, Sem.run_pure, Result.andThen_ok, run_underlying he, Builtin.lenOf]
      rfl
end
end Go.Proofs.YtdnkeeedcnjofaaGreatDoor.Sx


/-
  Rows of our own at real addresses: what is appended to them, what is read of them, what is cut out of them.
-/
set_option linter.unusedVariables false
set_option linter.unusedSimpArgs false
namespace Go.Proofs.YtdnkeeedcnjofaaGreatDoor.Sx
open Go Go.RowKit

/-- A row: may it be appended to (then its block is known), its elements' type and cells, its block, where it begins, the room, how many there are, what they hold. -/
structure Rw where
  w : Bool
  e : TypeId
  k : Nat
  b : Nat
  o : Nat
  c : Nat
  n : Nat
  xs : List Value
abbrev Rw.sl (r : Rw) : Sl := ⟨r.b, r.o, r.n, r.c, none⟩
structure RwAt (w : World) (r : Rw) : Prop where
  lt : r.b < w.heap.size
  len : r.xs.length = r.n * r.k
  cap : r.n ≤ r.c
  cell : ∀ j, j < r.xs.length → w.cell? ⟨r.b, r.o + j, none⟩ = r.xs[j]?
  own : r.w = true → r.o = 0 ∧ w.ownsRow 0 r.e r.k (.slice (some ⟨r.b, 0, none⟩) r.n r.c) r.n r.xs
theorem ownsRow_keep {w w' : World} {e : TypeId} {k b n c : Nat} {xs : List Value} (h : w.ownsRow 0 e k (.slice (some ⟨b, 0, none⟩) n c) n xs) (hb : w'.heap[b]? = w.heap[b]?) : w'.ownsRow 0 e k (.slice (some ⟨b, 0, none⟩) n c) n xs := by
  refine ⟨h.1, ?_⟩
  rcases h.2 with ⟨h1, _⟩ | ⟨g, cap, cur, h1, h2, h3, h4⟩
  · cases h1
  · have e : b = g := by injection h1 with h1; injection h1 with h1; injection h1
    subst e
    exact .inr ⟨b, cap, cur, h1, h2, hb.trans h3, h4⟩
theorem RwAt.keep {w w' : World} {r : Rw} (h : RwAt w r) (hb : w'.heap[r.b]? = w.heap[r.b]?) : RwAt w' r :=
  ⟨lt_same h.lt hb, h.len, h.cap, fun j hj => (cellM_same hb).trans (h.cell j hj), fun hw => ⟨(h.own hw).1, ownsRow_keep (h.own hw).2 hb⟩⟩
theorem RwAt.of {w : World} {e : TypeId} {k b n c : Nat} {xs : List Value} (h : w.ownsRow 0 e k (.slice (some ⟨b, 0, none⟩) n c) n xs) : RwAt w ⟨true, e, k, b, 0, c, n, xs⟩ := by
  refine ⟨(World.ownsRow.lt h b rfl).2, h.1, ?_, fun j hj => ?_, fun _ => ⟨rfl, h⟩⟩
  · rcases h.2 with ⟨h1, _⟩ | ⟨g, cap, cur, h1, h2, h3, h4, _⟩
    · cases h1
    · have e : c = cap := by injection h1
      show n ≤ c
      rw [e]; exact h4
  · have hj : j < xs.length := hj
    show w.cell? ⟨b, 0 + j, none⟩ = xs[j]?
    rw [Nat.zero_add]
    exact World.ownsRow.cellAt h j (by rw [← h.1]; exact hj)
/-- All that was in memory at the beginning, if it is to be kept. -/
class ZW where
  z : Option World
structure RvOK [ZW] (R : List Rw) (p : Nat × Nat) (S : Nat → Prop) (w : World) : Prop where
  nodup : (R.map Rw.b).Nodup
  at_ : ∀ r ∈ R, S r.b ∧ RwAt w r ∧ ∀ W, ZW.z = some W → W.heap.size ≤ r.b
  base : ∀ W, ZW.z = some W → p.1 < W.heap.size ∧ W.heap.size ≤ w.heap.size ∧ ∀ b, b < W.heap.size → S b ∧ w.heap[b]? = W.heap[b]?
/-- Rows that are known. -/
abbrev rvX [ZW] (R : List Rw) : Ext where
  inv := fun p S w => RvOK R p S w
  keep := fun {p S w w'} h hb => ⟨h.nodup, fun r hr => ⟨(h.at_ r hr).1, (h.at_ r hr).2.1.keep (hb _ (h.at_ r hr).1), (h.at_ r hr).2.2⟩, fun W hW => by
    obtain ⟨h1, h2, h3⟩ := h.base W hW
    refine ⟨h1, ?_, fun b hb' => ⟨(h3 b hb').1, (hb b (h3 b hb').1).trans (h3 b hb').2⟩⟩
    have h4 := lt_same (b := W.heap.size - 1) (w := w) (w' := w') (by omega) (hb _ (h3 (W.heap.size - 1) (by omega)).1)
    omega⟩
abbrev rvC [ZW] (R : List Rw) : Chunk := @Chunk.mk (rvX R) true 0 []
/-- A row, or none. -/
def rowO : Option Rw → Option Sl
  | none => none
  | some r => some r.sl
def rowL : Option Rw → List Rw → List Rw
  | none, R => R
  | some r, R => r :: R
def rowN : Option Rw → Nat
  | none => 0
  | some r => r.n
def rowXs : Option Rw → List Value
  | none => []
  | some r => r.xs
theorem rowO_n (o : Option Rw) : uN (rowO o) = rowN o := by cases o <;> rfl
theorem rowL_sub (o : Option Rw) (R : List Rw) : ∀ r ∈ R, r ∈ rowL o R := fun r hr => by
  cases o with
  | none => exact hr
  | some q => exact List.mem_cons_of_mem _ hr
theorem rowL_in (r : Rw) (R : List Rw) : r ∈ rowL (some r) R := List.mem_cons_self ..
/-- What an append makes. -/
structure Grew (o o' : Option Rw) (e : TypeId) (k m : Nat) (news : List Value) : Prop where
  n : rowN o' = rowN o + m
  xs : rowXs o' = rowXs o ++ news
  ty : ∀ r, o' = some r → r.e = e ∧ r.k = k ∧ r.w = true
  nil : o' = none ↔ o = none ∧ m = 0
  cap : ∀ r, o' = some r → r.n ≤ r.c
/-- What is appended: nothing, or cells in memory. -/
def SrcR (w : World) (v : Value) (m k : Nat) (news : List Value) : Prop :=
  (v = .slice none 0 0 ∧ m = 0 ∧ news = []) ∨ ∃ a c, v = .slice (some a) m c ∧ news.length = m * k ∧ ∀ j u, news[j]? = some u → w.cell? (a.add j) = some u
theorem new_row {w : World} {e : TypeId} {size n m cap : Nat} {z : Value} {olds news : List Value} (ho : olds.length = n * size) (hn : news.length = m * size) (hz : z.cells.size = size) (hge : n + m ≤ cap) (hcm : cap ≤ maxLen) :
    (w.drew.alloc (.cells (olds.toArray ++ news.toArray ++ Builtin.zeroCells z.cells (cap - (n + m))) e)).ownsRow 0 e size (.slice (some ⟨w.heap.size, 0, none⟩) (n + m) cap) (n + m) (olds ++ news) := by
  have hlen : (olds ++ news).length = (n + m) * size := by rw [List.length_append, ho, hn, Nat.add_mul]
  refine ⟨hlen, .inr ⟨w.heap.size, _, _, rfl, Nat.zero_le _, heap_alloc_new w.drew _, hge, hcm, ?_, ?_⟩⟩
  · simp only [Array.size_append, List.size_toArray, size_zeroCells, hz, ho, hn, ← Nat.add_mul]
    congr 1
    omega
  · simp only [Array.toList_append, List.append_assoc]
    rw [← List.append_assoc, ← hlen]
    exact List.take_left
section
variable {P : Program} {G : Tys} {o : Oper} {st : St}
/-- An append to a row of our own (or to none): one outcome. -/
theorem eff_appR [ZW] {x y : Operand} {t e : TypeId} {ei : TypeInfo} {z p : Value} {i : Nat} {own : Bool} {n : Nat} {ps : List (Nat × Nat × Value)} (oe : Option Rw) (R : List Rw) (m : Nat) (news : List Value) {K : Value → List (Nat × Chunk) → Prop}
    (ho : o.op = .call ⟨.builtin .append, #[x, y], #[t, t]⟩) (hx : EvTo x st p) (hp : ∀ ρ, den ρ p = uR (rowO oe))
    (h1 : P.underlying t = some (.slice e)) (h2 : P.info? e = some ei) (hz : ei.zero = some z) (hzs : z.cells.size = ei.size) (hs0 : 0 < ei.size)
    (hi : st.h[i]? = some (some (@Chunk.mk (rvX (rowL oe R)) own n ps))) (hoe : ∀ r, oe = some r → r.e = e ∧ r.k = ei.size ∧ r.w = true)
    (hsrc : ∀ X ρ a w, Rel X ρ st a w → SrcR w (a.eval y) m ei.size news) (hone : ∀ u ∈ news, u.oneCell' = true)
    (h63 : rowN oe + m ≤ 35184372088831) (hb : (rowN oe + m) * ei.bytes ≤ 140737488355328)
    (hK : ∀ oe', Grew oe oe' e ei.size m news → K (uV (rowO oe')) [(i, @Chunk.mk (rvX (rowL oe' R)) own n ps)]) : EffAll P o st K := fun X ρ a w Rl next Q hn => by
  have hx' : a.eval x = uR (rowO oe) := by rw [← (hx.den Rl).self, hp]
  obtain ⟨S, E⟩ := Rl.heap.ext
  have V : RvOK (rowL oe R) (ρ i) (S i) w := E.inv i _ hi
  have hpi := Rl.heap.lt i _ hi
  have fin : ∀ oe' w', (Builtin.append_ #[t, t] o.type #[a.eval x, a.eval y]).run P w = .ok (uR (rowO oe')) w' → HOK X ρ (st.h.set i (some (@Chunk.mk (rvX (rowL oe' R)) own n ps))) w' → Grew oe oe' e ei.size m news → o.wp P a w next Q := fun oe' w' hr H' hg => by
    have hrun2 := run_append_op (P := P) (o := o) (x := x) (y := y) (t := t) (a := a) ho hr
    unfold Oper.wp
    rw [hrun2]
    exact hn _ _ ρ _ _ (hK oe' hg) ⟨AgreeOn.refl _ _, H', fun r _ => uV_den _ r⟩
  have hcm : ∀ q old, q ≤ 35184372088831 → grownCap w q old e ≤ maxLen := fun q old hq => grownCap_le_maxLen w q old e (by simp only [maxLen]; omega)
  have turn : ∀ oe' w', RvOK (rowL oe' R) (ρ i) (fun b => S i b ∨ ∃ r', oe' = some r' ∧ b = r'.b) w' → w'.os = w.os → w'.tape = w.tape → w'.output = w.output → w.heap.size ≤ w'.heap.size → (∀ b, b < w.heap.size → ¬ S i b → w'.heap[b]? = w.heap[b]?) → (∀ r', oe' = some r' → S i r'.b ∨ w.heap.size ≤ r'.b) →
      HOK X ρ (st.h.set i (some (@Chunk.mk (rvX (rowL oe' R)) own n ps))) w' := fun oe' w' hv e1 e2 e3 e4 e5 e6 => by
    refine Rl.heap.turnX E hi (d := @Chunk.mk (rvX (rowL oe' R)) own n ps) (S' := fun b => S i b ∨ ∃ r', oe' = some r' ∧ b = r'.b) id (Nat.le_refl _) (fun j hj => rfl) e1 e2 e3 e4 e5 (fun b hb => ?_) hv
    rcases hb with hb | ⟨r', hr', rfl⟩
    · obtain ⟨m1, m2, m3⟩ := E.mine i _ b hi hb
      exact ⟨Nat.lt_of_lt_of_le m2 e4, m1, .inl hb⟩
    · have hlt : r'.b < w'.heap.size := by
        subst hr'
        exact ((hv.at_ r' (rowL_in r' R)).2.1).lt
      rcases e6 r' hr' with h | h
      · exact ⟨hlt, (E.mine i _ _ hi h).1, .inl h⟩
      · exact ⟨hlt, .inr (by omega), .inr h⟩
  -- nothing is appended
  by_cases hm0 : m = 0
  · subst hm0
    have hnews : news = [] := by
      rcases hsrc X ρ a w Rl with ⟨_, _, h⟩ | ⟨_, _, _, h, _⟩
      · exact h
      · exact List.length_eq_zero_iff.1 (by simpa using h)
    subst hnews
    have hset : st.h.set i (some (@Chunk.mk (rvX (rowL oe R)) own n ps)) = st.h := by
      refine List.ext_getElem? fun j => ?_
      by_cases e : i = j
      · subst e; rw [List.getElem?_set_self (List.getElem?_eq_some_iff.1 hi).1, hi]
      · rw [List.getElem?_set_ne e]
    have same : (Builtin.append_ #[t, t] o.type #[uR (rowO oe), a.eval y]).run P w = .ok (uR (rowO oe)) w := by
      have hown : w.ownsRow 0 e ei.size (uR (rowO oe)) (rowN oe) (rowXs oe) := by
        cases oe with
        | none => exact World.ownsRow_nil w 0 e ei.size
        | some r =>
          obtain ⟨q1, q2, q3⟩ := hoe r rfl
          obtain ⟨q4, this⟩ := ((V.at_ r (rowL_in r R)).2.1).own q3
          have e1 : uR (rowO (some r)) = .slice (some ⟨r.b, 0, none⟩) r.n r.c := by show Value.slice (some ⟨r.b, r.o, none⟩) r.n r.c = _; rw [q4]
          rw [e1, ← q1, ← q2]; exact this
      rcases hsrc X ρ a w Rl with ⟨hv, _, _⟩ | ⟨ad, c, hv, _, _⟩
      · rw [hv]; exact run_append_owned_none w 0 t o.type e ei ei.size h1 h2 _ _ _ hown
      · rw [hv]
        cases oe with
        | none =>
          simp [rowO, uR, Builtin.append_, run_underlying h1, sizeOf, typeInfo, h2, Builtin.lenOf, run_firstCells_some (P := P) w ei.size 0 ad 0 c [] (by simp) (by simp), storeCells]
        | some r =>
          have hc := ((V.at_ r (rowL_in r R)).2.1).cap
          simp [rowO, uR, Builtin.append_, run_underlying h1, sizeOf, typeInfo, h2, Builtin.lenOf, hc, run_firstCells_some (P := P) w ei.size 0 ad 0 c [] (by simp) (by simp), storeCells]
    refine fin oe w (by rw [hx']; exact same) (by rw [hset]; exact Rl.heap) ⟨rfl, by simp, hoe, by simp, fun r hr => by subst hr; exact ((V.at_ r (rowL_in r R)).2.1).cap⟩
  obtain ⟨ad, c, hv, hnl, hnc⟩ : ∃ ad c, a.eval y = .slice (some ad) m c ∧ news.length = m * ei.size ∧ ∀ j u, news[j]? = some u → w.cell? (ad.add j) = some u := by
    rcases hsrc X ρ a w Rl with ⟨_, h, _⟩ | h
    · exact absurd h hm0
    · exact h
  -- a new row
  have fresh : ∀ (olds : List Value) (q old : Nat), oe = none ∧ q = 0 ∧ olds = [] ∨ (∃ r, oe = some r ∧ q = r.n ∧ olds = r.xs) → old < q + m →
      (Builtin.append_ #[t, t] o.type #[uR (rowO oe), a.eval y]).run P w = .ok (.slice (some ⟨w.heap.size, 0, none⟩) (q + m) (grownCap w (q + m) old e)) (w.drew.alloc (.cells (olds.toArray ++ news.toArray ++ Builtin.zeroCells z.cells (grownCap w (q + m) old e - (q + m))) e)) → olds.length = q * ei.size → q = rowN oe → o.wp P a w next Q := fun olds q old hq hold hr hol hqn => by
    have hge := grownCap_ge w (q + m) old e
    have hcap := hcm (q + m) old (by omega)
    have hrow := new_row (w := w) (e := e) hol hnl hzs hge hcap
    generalize hcc : grownCap w (q + m) old e = cap at hr hge hcap hrow
    have hB : Below w.heap.size w (w.drew.alloc (.cells (olds.toArray ++ news.toArray ++ Builtin.zeroCells z.cells (cap - (q + m))) e)) := ((Below.refl _ _).drew).alloc (Nat.le_refl _) _
    have hxs : rowXs oe = olds := by rcases hq with ⟨rfl, _, rfl⟩ | ⟨r, rfl, _, rfl⟩ <;> rfl
    refine fin (some ⟨true, e, ei.size, w.heap.size, 0, cap, q + m, olds ++ news⟩) _ (by rw [hx', hr]; rfl) (turn _ _ ?_ hB.os hB.tape hB.output hB.size (fun b hb _ => hB.block b hb) (fun r' hr' => by obtain rfl := Option.some.inj hr'; exact .inr (Nat.le_refl _))) ⟨by rw [← hqn]; rfl, by rw [hxs]; rfl, fun r hr => by obtain rfl := Option.some.inj hr; exact ⟨rfl, rfl, rfl⟩, ⟨(fun h => by cases h), fun h => absurd h.2 hm0⟩, fun r hr => by obtain rfl := Option.some.inj hr; exact hge⟩
    have hR : ∀ r ∈ R, S i r.b ∧ RwAt w r ∧ ∀ W, ZW.z = some W → W.heap.size ≤ r.b := fun r hr => V.at_ r (rowL_sub oe R r hr)
    have hnd : (R.map Rw.b).Nodup := by
      cases oe with
      | none => exact V.nodup
      | some r => have := V.nodup; rw [show rowL (some r) R = r :: R from rfl, List.map_cons, List.nodup_cons] at this; exact this.2
    refine ⟨?_, fun r hr => ?_, fun W hW => ?_⟩
    rotate_left 2
    · obtain ⟨b1, b2, b3⟩ := V.base W hW
      exact ⟨b1, Nat.le_trans b2 hB.size, fun b hb => ⟨.inl (b3 b hb).1, (hB.block b (Nat.lt_of_lt_of_le hb b2)).trans (b3 b hb).2⟩⟩
    · rw [show ∀ r, rowL (some r) R = r :: R from fun _ => rfl, List.map_cons, List.nodup_cons]
      refine ⟨fun hm => ?_, hnd⟩
      obtain ⟨r, hr, e'⟩ := List.mem_map.1 hm
      have := (hR r hr).2.1.lt
      have e' : r.b = w.heap.size := e'
      omega
    · rcases List.mem_cons.1 hr with rfl | hr
      · exact ⟨.inr ⟨_, rfl, rfl⟩, .of hrow, fun W hW => (V.base W hW).2.1⟩
      · exact ⟨.inl (hR r hr).1, (hR r hr).2.1.keep (hB.block _ (hR r hr).2.1.lt), (hR r hr).2.2⟩
  cases oe with
  | none =>
    have hr := run_append_nil (P := P) w t o.type e ei z h1 h2 hz ad m c news hnl hnc (by omega) (by simp only [rowN] at h63; omega) (by simp only [rowN, Nat.zero_add] at hb; omega)
    refine fresh [] 0 0 (.inl ⟨rfl, rfl, rfl⟩) (by omega) ?_ (by simp) rfl
    rw [hv]
    simpa [rowO, uR] using hr
  | some r =>
    obtain ⟨q1, q2, q3⟩ := hoe r rfl
    obtain ⟨q4, hat⟩ := ((V.at_ r (rowL_in r R)).2.1).own q3
    have hu : uR (rowO (some r)) = .slice (some ⟨r.b, 0, none⟩) r.n r.c := by show Value.slice (some ⟨r.b, r.o, none⟩) r.n r.c = _; rw [q4]
    have hS := (V.at_ r (rowL_in r R)).1
    have hown : w.ownsRow 0 e ei.size (.slice (some ⟨r.b, 0, none⟩) r.n r.c) r.n r.xs := by rw [← q1, ← q2]; exact hat
    by_cases hroom : r.n + m ≤ r.c
    · obtain ⟨w', hr, hown', hg⟩ := run_append_fits (P := P) w 0 t o.type e ei ei.size h1 h2 rfl r.b r.n r.c r.xs hown ad m c news hnl hnc hone hroom
      refine fin (some ⟨true, e, ei.size, r.b, 0, r.c, r.n + m, r.xs ++ news⟩) w' (by rw [hx', hv, hu]; exact hr) (turn _ _ ?_ hg.os hg.tape hg.output hg.size (fun b hb hnS => hg.block b hb (fun e' => by obtain rfl := Option.some.inj e'; exact hnS hS)) (fun r' hr' => by obtain rfl := Option.some.inj hr'; exact .inl hS)) ⟨rfl, rfl, fun r' hr' => by obtain rfl := Option.some.inj hr'; exact ⟨rfl, rfl, rfl⟩, ⟨(fun h => by cases h), fun h => absurd h.2 hm0⟩, fun r' hr' => by obtain rfl := Option.some.inj hr'; exact hroom⟩
      have hnd : r.b ∉ R.map Rw.b ∧ (R.map Rw.b).Nodup := by have := V.nodup; rw [show rowL (some r) R = r :: R from rfl, List.map_cons, List.nodup_cons] at this; exact this
      have hrb := (V.at_ r (rowL_in r R)).2.2
      refine ⟨?_, fun r' hr' => ?_, fun W hW => ?_⟩
      rotate_left 2
      · obtain ⟨b1, b2, b3⟩ := V.base W hW
        have := hrb W hW
        exact ⟨b1, Nat.le_trans b2 hg.size, fun b hb => ⟨.inl (b3 b hb).1, (hg.block b (Nat.lt_of_lt_of_le hb b2) fun e' => by have := Option.some.inj e'; omega).trans (b3 b hb).2⟩⟩
      · rw [show ∀ r, rowL (some r) R = r :: R from fun _ => rfl, List.map_cons, List.nodup_cons]; exact hnd
      · rcases List.mem_cons.1 hr' with rfl | hr'
        · exact ⟨.inl hS, .of hown', hrb⟩
        · obtain ⟨g1, g2, g3⟩ := V.at_ r' (rowL_sub _ _ _ hr')
          exact ⟨.inl g1, g2.keep (hg.block _ g2.lt fun e' => hnd.1 (List.mem_map.2 ⟨r', hr', Option.some.inj e'⟩)), g3⟩
    · have holds : ∀ j u, r.xs[j]? = some u → w.cell? ((⟨r.b, 0, none⟩ : Addr).add j) = some u := hown.cells (g := r.b) rfl
      have hr := run_append_grow (P := P) w t o.type e ei z h1 h2 hz ⟨r.b, 0, none⟩ r.n r.c r.xs hown.1 holds ad m c news hnl hnc (by omega) (by simp only [rowN] at h63; omega) (growslice_fits (by omega) hb)
      refine fresh r.xs r.n r.c (.inr ⟨r, rfl, rfl, rfl⟩) (by omega) ?_ hown.1 rfl
      rw [hv, hu]
      exact hr
/-- What is appended, by what is known of some stretches. -/
def SrcN (y : Operand) (st : St) (hs : List Nat) (m k : Nat) (news : List Value) : Prop :=
  ∀ st₂ : St, (∀ u, EvTo y st u → EvTo y st₂ u) → (∀ i ∈ hs, st₂.h[i]? = st.h[i]?) → ∀ X ρ a w, Rel X ρ st₂ a w → SrcR w (a.eval y) m k news
theorem app_now [ZW] {x y : Operand} {t e : TypeId} {ei : TypeInfo} {z p : Value} {own : Bool} {n : Nat} {ps : List (Nat × Nat × Value)} {K : Value → List (Nat × Chunk) → Prop} (oe : Option Rw) (R : List Rw) (i m : Nat) (news : List Value)
    (ho : o.op = .call ⟨.builtin .append, #[x, y], #[t, t]⟩) (hx : EvTo x st p) (hp : ∀ ρ, den ρ p = uR (rowO oe))
    (h1 : P.underlying t = some (.slice e)) (h2 : P.info? e = some ei) (hz : ei.zero = some z) (hzs : z.cells.size = ei.size) (hs0 : 0 < ei.size)
    (hi : st.h[i]? = some (some (@Chunk.mk (rvX (rowL oe R)) own n ps))) (hoe : ∀ r, oe = some r → r.e = e ∧ r.k = ei.size ∧ r.w = true) (hs : List Nat) (hsrc : SrcN y st hs m ei.size news) (hone : ∀ u ∈ news, u.oneCell' = true)
    (h63 : rowN oe + m ≤ 35184372088831) (hb : (rowN oe + m) * ei.bytes ≤ 140737488355328)
    (hK : ∀ oe', Grew oe oe' e ei.size m news → K (uV (rowO oe')) [(i, @Chunk.mk (rvX (rowL oe' R)) own n ps)]) : N (EffAll P o st K) :=
  N.mk (eff_appR oe R m news ho hx hp h1 h2 hz hzs hs0 hi hoe (hsrc st (fun _ h => h) fun _ _ => rfl) hone h63 hb hK)
theorem app_multi [ZW] {x y : Operand} {t e : TypeId} {ei : TypeInfo} {z p : Value} {own : Bool} {n : Nat} {ps : List (Nat × Nat × Value)} {C : List Nat → Prop} {K : List Nat → Value → List (Nat × Chunk) → Prop} (oe : Option Rw) (R : List Rw) (i m : Nat) (news : List Value) (hs : List Nat)
    (ho : o.op = .call ⟨.builtin .append, #[x, y], #[t, t]⟩) (hx : EvTo x st p) (hp : ∀ ρ, den ρ p = uR (rowO oe))
    (h1 : P.underlying t = some (.slice e)) (h2 : P.info? e = some ei) (hz : ei.zero = some z) (hzs : z.cells.size = ei.size) (hs0 : 0 < ei.size)
    (hi : st.h[i]? = some (some (@Chunk.mk (rvX (rowL oe R)) own n ps))) (hoe : ∀ r, oe = some r → r.e = e ∧ r.k = ei.size ∧ r.w = true) (hsi : i ∈ hs) (hsrc : SrcN y st hs m ei.size news) (hone : ∀ u ∈ news, u.oneCell' = true)
    (h63 : rowN oe + m ≤ 35184372088831) (hb : (rowN oe + m) * ei.bytes ≤ 140737488355328) (hC : C hs)
    (hK : ∀ oe', Grew oe oe' e ei.size m news → K hs (uV (rowO oe')) [(i, @Chunk.mk (rvX (rowL oe' R)) own n ps)]) : N (MultiN P o st C K) :=
  N.mk ⟨hs, hC, fun st₂ ha hh => eff_appR oe R m news ho (ha x (by simp [ho, Op.operands, Call.operands]) _ hx) hp h1 h2 hz hzs hs0 ((hh i hsi).trans hi) hoe (hsrc st₂ (fun u hu => ha y (by simp [ho, Op.operands, Call.operands]) u hu) hh) hone h63 hb fun oe' hg => ⟨fun j hj => by
    have hj : j = i := by simpa using hj
    rw [hj]; exact hsi, hK oe' hg⟩⟩
/-- The source is known: cells of a stretch. -/
theorem src_chunk {y : Operand} {j g u m q k : Nat} {cj : Chunk} {cs : List Value} (hs : List Nat) (hjs : j ∈ hs) (hy : EvTo y st (.slice (some ⟨j, g, some u⟩) m q)) (hj : st.h[j]? = some (some cj)) (hr : Reads cj g true (m * k) (.agg ⟨cs⟩)) (hp : cs.all plain1 = true) :
    SrcN y st hs m k cs := fun st₂ ha hh X ρ a w Rl => by
  have hj := (hh j hjs).trans hj
  have hy := ha _ hy
  have hy' : a.eval y = .slice (some ⟨(ρ j).1, (ρ j).2 + g, none⟩) m q := (hy.den Rl).self.symm
  obtain ⟨cs', e, hcl, hcc, hcd⟩ := reads_cells Rl.heap hj hr
  obtain rfl : cs = cs' := by simpa using e
  refine .inr ⟨_, q, hy', hcl, fun l v hv => hcc l v ?_⟩
  have hl := (List.getElem?_eq_some_iff.1 hv).1
  rw [List.getElem?_map, hv]
  have : plain1 v = true := List.all_eq_true.1 hp v (List.mem_of_getElem? hv)
  show some (den1 ρ v) = some v
  rw [den1_plain this]
/-- The source is a row that is known, or a part of it. -/
theorem src_row [ZW] {y : Operand} {i : Nat} {own : Bool} {n : Nat} {ps : List (Nat × Nat × Value)} {R : List Rw} {r : Rw} {p m c k : Nat} (hs : List Nat) (his : i ∈ hs) {f : Nat} (hf : f = r.o + p) (hy : EvTo y st (uV (some ⟨r.b, f, m, c, none⟩))) (hi : st.h[i]? = some (some (@Chunk.mk (rvX R) own n ps))) (hr : r ∈ R) (hk : p + m * k ≤ r.xs.length) :
    SrcN y st hs m k ((r.xs.drop p).take (m * k)) := fun st₂ ha hh X ρ a w Rl => by
  have hi := (hh i his).trans hi
  have hy := ha _ hy
  subst hf
  have hy' : a.eval y = .slice (some ⟨r.b, r.o + p, none⟩) m c := by rw [← (hy.den Rl).self, uV_den]; rfl
  obtain ⟨S, E⟩ := Rl.heap.ext
  have V : RvOK R (ρ i) (S i) w := E.inv i _ hi
  refine .inr ⟨_, c, hy', by rw [List.length_take, List.length_drop]; omega, fun l v hv => ?_⟩
  rw [List.getElem?_take] at hv
  split at hv
  · rw [List.getElem?_drop] at hv
    rw [add_at, ← hv, Nat.add_assoc]
    exact (V.at_ r hr).2.1.cell _ (List.getElem?_eq_some_iff.1 hv).1
  · cases hv
theorem src_none {y : Operand} {k : Nat} (hs : List Nat) (hy : EvTo y st (uV none)) : SrcN y st hs 0 k [] := fun st₂ ha hh X ρ a w Rl => by
  have hy := ha _ hy
  have hy' : a.eval y = .slice none 0 0 := by rw [← (hy.den Rl).self, uV_den]; rfl
  exact .inl ⟨hy', rfl, rfl⟩
/-- A cell of a row. -/
theorem ok_loadV [ZW] {t : TypeId} {x : Operand} {f i : Nat} {own : Bool} {n : Nat} {ps : List (Nat × Nat × Value)} {R : List Rw} (r : Rw) {v : Value} (p : Nat) (hG : TysOK P G) (ho : o.op = .load t x) (hx : EvTo x st (.pointer (some ⟨r.b, f, none⟩))) (hf : f = r.o + p) (hi : st.h[i]? = some (some (@Chunk.mk (rvX R) own n ps))) (hr : r ∈ R)
    (ht : lookT G t fun _ d => isAggD d = false) (hp : plain1 v = true) (hk : r.xs[p]? = some v) : OKs P o st v [] [i] := fun st₂ hs hh _ =>
  eff_pure fun X ρ a w R' => by
    have hi2 := (hh i (by simp)).trans hi
    have hx' := ev_real (hs x (by simp [ho, Op.operands]) _ hx) rfl R'
    obtain ⟨ti, d, _, h2, hd⟩ := lookT_out hG ht
    obtain ⟨S, E⟩ := R'.heap.ext
    have V : RvOK R (ρ i) (S i) w := E.inv i _ hi2
    have hy := ((V.at_ r hr).2.1.cell p (List.getElem?_eq_some_iff.1 hk).1).trans hk
    rw [← hf] at hy
    refine ⟨v, ?_, fun r _ => ?_⟩
    · simp only [execOp, ho, hx', Instr.loadAt, Instr.sureAddr, loadVar, Sem.run_bind, Sem.run_pure, Result.andThen_ok, run_isAgg h2, hd, Bool.false_eq_true, if_false, run_load, hy]
    · cases v <;> first | exact den_plain (by exact hp) r | (simp [plain1] at hp)
/-- An element of a row. -/
theorem ok_loadVA [ZW] {t : TypeId} {x : Operand} {f i sz : Nat} {own : Bool} {n : Nat} {ps : List (Nat × Nat × Value)} {R : List Rw} (r : Rw) (cs : List Value) (p : Nat) (hG : TysOK P G) (ho : o.op = .load t x) (hx : EvTo x st (.pointer (some ⟨r.b, f, none⟩))) (hf : f = r.o + p) (hi : st.h[i]? = some (some (@Chunk.mk (rvX R) own n ps))) (hr : r ∈ R)
    (ht : lookT G t fun ti d => isAggD d = true ∧ ti.size = sz) (hp : cs.all plain1 = true) (hl : cs.length = sz) (hk : ∀ j v, cs[j]? = some v → r.xs[p + j]? = some v) : OKs P o st (.agg ⟨cs⟩) [] [i] := fun st₂ hs hh _ =>
  eff_pure fun X ρ a w R' => by
    have hi2 := (hh i (by simp)).trans hi
    have hx' := ev_real (hs x (by simp [ho, Op.operands]) _ hx) rfl R'
    obtain ⟨ti, d, h1, h2, hd, rfl⟩ := lookT_out hG ht
    obtain ⟨S, E⟩ := R'.heap.ext
    have V : RvOK R (ρ i) (S i) w := E.inv i _ hi2
    have hcells : ∀ j v, cs[j]? = some v → w.cell? ((⟨r.b, f, none⟩ : Addr).add j) = some v := fun j v hv => by
      have h3 := hk j v hv
      rw [add_at, hf, Nat.add_assoc]; exact ((V.at_ r hr).2.1.cell _ (List.getElem?_eq_some_iff.1 h3).1).trans h3
    refine ⟨.agg ⟨cs⟩, ?_, Den.plain hp⟩
    simp only [execOp, ho, hx', Instr.loadAt, Instr.sureAddr, loadVar, Sem.run_bind, Sem.run_pure, Result.andThen_ok, run_isAgg h2, hd, if_true, run_sizeOf h1]
    rw [← hl, run_loadCells_list _ _ _ hcells]
    rfl
/-- A field at a real address. -/
theorem ok_fieldR {t : TypeId} {x : Operand} {k b f g : Nat} (off : Nat) (hG : TysOK P G) (ho : o.op = .fieldAddr t x k) (hx : EvTo x st (.pointer (some ⟨b, f, none⟩)))
    (ht : lookT G t fun _ d => match d with | .struct fs => (match nthL fs.toList k with | some fl => (lookT G fl.type fun fi _ => Nat.beq fi.size 0 = false) ∧ fl.offset = off | none => False) | _ => False) (hg : g = f + off) : OKs P o st (.pointer (some ⟨b, g, none⟩)) [] [] := fun st₂ hs _ _ =>
  eff_pure fun X ρ a w R => by
    subst hg
    have hx' := ev_real (hs x (by simp [ho, Op.operands]) _ hx) rfl R
    obtain ⟨_, d, _, h1, hd⟩ := lookT_out hG ht
    split at hd
    · split at hd
      · rename_i fs x fl hfl
        obtain ⟨hft, rfl⟩ := hd
        obtain ⟨fi, _, h3, _, h4⟩ := lookT_out hG hft
        have h2' : fs[k]? = some fl := by rw [nthL_eq] at hfl; simpa using hfl
        have h4' : fi.size ≠ 0 := fun e => by rw [e] at h4; cases h4
        refine ⟨.pointer (some ⟨b, f + fl.offset, none⟩), ?_, Den.plain rfl⟩
        simp only [execOp, ho, hx', Instr.fieldAt, Instr.sureAddr, underlying, fieldPlace, Sem.run_bind, run_program, Result.andThen_ok, h1, h2', Sem.run_pure, run_sizeOf h3, h4', if_false, add_at, Nat.add_assoc]
      · exact hd.elim
    · exact hd.elim
/-- A part of a slice at a real address. -/
theorem ok_sliceU {t e : TypeId} {x : Operand} {lo hi : Option Operand} {vl vh : Option Value} {b f l c p q : Nat} {ei : TypeInfo} (ho : o.op = .slice t x lo hi none) (hx : EvTo x st (uV (some ⟨b, f, l, c, none⟩))) (hl : OptTo st lo vl) (hh : OptTo st hi vh) (h1 : P.underlying t = some (.slice e)) (h2 : P.info? e = some ei)
    (hq : Bnd vh l c q) (hp : Bnd vl 0 q p) : OKs P o st (uV (some ⟨b, f + (if c = p then 0 else p * ei.size), q - p, c - p, none⟩)) [] [] := fun st₂ hs _ _ =>
  eff_pure fun X ρ a w R => by
    have hx' : a.eval x = .slice (some ⟨b, f, none⟩) l c := by rw [← ((hs x (by simp [ho, Op.operands]) _ hx).den R).self, uV_den]; rfl
    have e1 := opt_den R hl (fun y hy => hs y (by cases hy; simp [ho, Op.operands]))
    have e2 := opt_den R hh (fun y hy => hs y (by cases hy; simp [ho, Op.operands]))
    refine ⟨uR (some ⟨b, f + (if c = p then 0 else p * ei.size), q - p, c - p, none⟩), ?_, fun r _ => uV_den _ r⟩
    simp only [execOp, ho, hx', e1, e2, Instr.sliceAt, Instr.slice, underlying, Sem.run_bind, run_program, Result.andThen_ok, h1, Sem.run_pure, Option.map_none, run_bounds hq hp, run_sizeOf h2, Option.map_some, add_at, Nat.add_assoc]
    by_cases hc : c = p <;> simp [hc, uR]
theorem ok_sliceN {t e : TypeId} {x : Operand} {lo hi : Option Operand} {vl vh : Option Value} {ei : TypeInfo} (ho : o.op = .slice t x lo hi none) (hx : EvTo x st (uV none)) (hl : OptTo st lo vl) (hh : OptTo st hi vh) (h1 : P.underlying t = some (.slice e)) (h2 : P.info? e = some ei)
    (hq : Bnd vh 0 0 0) (hp : Bnd vl 0 0 0) : OKs P o st (uV none) [] [] := fun st₂ hs _ _ =>
  eff_pure fun X ρ a w R => by
    have hx' : a.eval x = .slice none 0 0 := by rw [← ((hs x (by simp [ho, Op.operands]) _ hx).den R).self, uV_den]; rfl
    have e1 := opt_den R hl (fun y hy => hs y (by cases hy; simp [ho, Op.operands]))
    have e2 := opt_den R hh (fun y hy => hs y (by cases hy; simp [ho, Op.operands]))
    refine ⟨uR none, ?_, fun r _ => uV_den _ r⟩
    simp only [execOp, ho, hx', e1, e2, Instr.sliceAt, Instr.slice, underlying, Sem.run_bind, run_program, Result.andThen_ok, h1, Sem.run_pure, Option.map_none, run_bounds hq hp, run_sizeOf h2, Option.map_some]
    simp [uR]
end
open Classical in
/-- A callee's end: a row of its own that was told as a stretch is known from now on. -/
theorem rv_end [ZW] {ss : List Piece} {h : List (Option Chunk)} {v : Value} {K : Value → List (Option Chunk) → Prop} (i k : Nat) {R : List Rw} {d : Chunk} (e : TypeId) (z n c : Nat) (xs : List Value) (hi : h[i]? = some (some (rvC R))) (hk : h[k]? = some (some d)) (hd : d.own = true) (hdx : d.x = Ext.none) (hks : ss.length ≤ k)
    (hlen : xs.length = n * z) (hnc : n ≤ c) (hpos : 0 < xs.length) (hle : xs.length ≤ d.n) (hdf : ∀ j u, xs[j]? = some u → ∀ r, den1 r (d.f j) = u) (h' : Nat → Nat → List (Option Chunk))
    (hi' : ∀ b o, (h' b o)[i]? = some (some (rvC (⟨false, e, z, b, o, c, n, xs⟩ :: R)))) (hh : ∀ b o j d', j ≠ i → (h' b o)[j]? = some (some d') → j ≠ k ∧ ∃ c0, h[j]? = some (some c0) ∧ d'.own = c0.own ∧ d'.n = c0.n ∧ d'.x = c0.x ∧ ∀ q, q < d'.n → ∀ ρ ρ' : Nat → Nat × Nat, ρ k = (b, o) → AgreeOn (Fil (h' b o)) ρ ρ' → den1 ρ' (d'.f q) = den1 ρ (c0.f q))
    (hbs : ∀ b o j, j < ss.length → Fil (h' b o) j) (hv : ∀ b o, ∀ ρ ρ' : Nat → Nat × Nat, ρ k = (b, o) → AgreeOn (Fil (h' b o)) ρ ρ' → den ρ' v = den ρ v) (kk : ∀ b o, K v (h' b o)) : N (EndN ss h v K) := N.mk fun X ρ w x Td H hdn => by
  have hik : i ≠ k := fun e' => by
    subst e'
    rw [hi] at hk
    have : d.n = 0 := by
      have := Option.some.inj (Option.some.inj hk); rw [← this]
    omega
  let r : Rw := ⟨false, e, z, (ρ k).1, (ρ k).2, c, n, xs⟩
  have hρ : ρ k = (r.b, r.o) := rfl
  obtain ⟨S, E⟩ := H.ext
  have V : RvOK R (ρ i) (S i) w := E.inv i _ hi
  have hm : May X (ρ k).1 := Td.may H hk hd (by omega) hks
  refine ⟨v, h' r.b r.o, ρ, ?_, fun r' hr' => ?_, kk _ _⟩
  · have get : ∀ j f, (h' r.b r.o)[j]? = some (some f) → (j = i ∧ f = rvC (r :: R)) ∨ (j ≠ i ∧ j ≠ k ∧ ∃ c0, h[j]? = some (some c0) ∧ f.own = c0.own ∧ f.n = c0.n ∧ f.x = c0.x ∧ ∀ q, q < f.n → ∀ ρ', AgreeOn (Fil (h' r.b r.o)) ρ ρ' → den1 ρ' (f.f q) = den1 ρ (c0.f q)) := fun j f hf => by
      by_cases e1 : j = i
      · subst e1; rw [hi'] at hf; exact .inl ⟨rfl, (Option.some.inj (Option.some.inj hf)).symm⟩
      · obtain ⟨g1, c0, g2, g3, g4, g5, g6⟩ := hh r.b r.o j f e1 hf
        exact .inr ⟨e1, g1, c0, g2, g3, g4, g5, fun q hq ρ' ha => g6 q hq ρ ρ' hρ ha⟩
    have noS : ∀ b, ¬ S k b := by have := E.inv k d hk; rw [hdx] at this; exact this
    refine ⟨H.evo, fun j hj => ⟨hbs r.b r.o j (by have := Td.n0; omega), (H.base j hj).2⟩, fun j f hf => ?_, fun j f hf q hq => ?_, fun j f hf ho q hq => ?_, fun j f l g hf ho hl hne => ?_, fun j b => (j = i ∧ (S i b ∨ b = (ρ k).1)) ∨ (j ≠ i ∧ S j b), fun j f hf => ?_, fun j f b hf hS => ?_, fun j f b l g hf hS hl hne => ?_⟩
    · rcases get j f hf with ⟨rfl, rfl⟩ | ⟨e1, e2, c0, g2, _⟩
      · exact H.lt _ _ hi
      · exact H.lt _ _ g2
    · rcases get j f hf with ⟨rfl, rfl⟩ | ⟨e1, e2, c0, g2, g3, g4, g5, g6⟩
      · exact absurd hq (Nat.not_lt_zero q)
      · obtain ⟨y, hy1, hy2⟩ := H.cell _ _ g2 q (by omega)
        exact ⟨y, hy1, fun r' hr' => by rw [g6 q hq r' hr']; exact hy2 ρ (AgreeOn.refl _ _)⟩
    · rcases get j f hf with ⟨rfl, rfl⟩ | ⟨e1, e2, c0, g2, g3, g4, g5, g6⟩
      · exact absurd hq (Nat.not_lt_zero q)
      · exact H.own _ _ g2 (by rw [← g3]; exact ho) q (by omega)
    · rcases get j f hf with ⟨rfl, rfl⟩ | ⟨e1, e2, c0, g2, g3, _⟩ <;> rcases get l g hl with ⟨rfl, rfl⟩ | ⟨e3, e4, c1, p2, p3, _⟩
      · exact absurd rfl hne
      · exact H.sep _ _ _ _ hi rfl p2 hne
      · exact H.sep _ _ _ _ g2 (by rw [← g3]; exact ho) hi hne
      · exact H.sep _ _ _ _ g2 (by rw [← g3]; exact ho) p2 hne
    · rcases get j f hf with ⟨rfl, rfl⟩ | ⟨e1, e2, c0, g2, g3, g4, g5, g6⟩
      · refine ⟨?_, fun r' hr' => ?_, fun W hW => ?_⟩
        rotate_left 2
        · obtain ⟨b1, b2, b3⟩ := V.base W hW
          exact ⟨b1, b2, fun b hb => ⟨.inl ⟨rfl, .inl (b3 b hb).1⟩, (b3 b hb).2⟩⟩
        · rw [List.map_cons, List.nodup_cons]
          refine ⟨fun hm' => ?_, V.nodup⟩
          obtain ⟨q, hq, e'⟩ := List.mem_map.1 hm'
          have e' : q.b = (ρ k).1 := e'
          exact (E.apart _ _ _ _ _ hi (V.at_ q hq).1 hk (Ne.symm hik)).1 e'.symm
        · rcases List.mem_cons.1 hr' with rfl | hr'
          · refine ⟨.inl ⟨rfl, .inr rfl⟩, ⟨H.lt _ _ hk, hlen, hnc, fun q hq => ?_, fun h => by cases h⟩, fun W hW => ?_⟩
            rotate_left
            · rcases Nat.lt_or_ge (ρ k).1 W.heap.size with hlt | hge
              · exact absurd rfl (E.apart _ _ _ _ _ hi ((V.base W hW).2.2 _ hlt).1 hk (Ne.symm hik)).1
              · exact hge
            have hq : q < xs.length := hq
            obtain ⟨y, hy1, hy2⟩ := H.cell _ _ hk q (by omega)
            show w.cell? ⟨(ρ k).1, (ρ k).2 + q, none⟩ = xs[q]?
            rw [hy1, ← hy2 ρ (AgreeOn.refl _ _), hdf q xs[q] (List.getElem?_eq_getElem hq), List.getElem?_eq_getElem hq]
          · exact ⟨.inl ⟨rfl, .inl (V.at_ r' hr').1⟩, (V.at_ r' hr').2.1, (V.at_ r' hr').2.2⟩
      · have : (fun b => (j = i ∧ (S i b ∨ b = (ρ k).1)) ∨ (j ≠ i ∧ S j b)) = S j := by
          funext b; exact propext ⟨fun h => by rcases h with h | h; exact absurd h.1 e1; exact h.2, fun h => .inr ⟨e1, h⟩⟩
        rw [this, g5]; exact E.inv _ _ g2
    · rcases hS with ⟨rfl, hS⟩ | ⟨e1, hS⟩
      · rcases get j f hf with ⟨_, rfl⟩ | ⟨h1, _⟩
        · refine ⟨.inl rfl, ?_⟩
          rcases hS with hS | rfl
          · exact (E.mine _ _ _ hi hS).2
          · exact ⟨H.lt _ _ hk, hm⟩
        · exact absurd rfl h1
      · rcases get j f hf with ⟨h1, _⟩ | ⟨_, e2, c0, g2, g3, g4, g5, g6⟩
        · exact absurd h1 e1
        · rw [g4]; exact E.mine _ _ _ g2 hS
    · rcases hS with ⟨rfl, hS⟩ | ⟨e1, hS⟩
      · rcases get l g hl with ⟨h1, _⟩ | ⟨e3, e4, c1, p2, _⟩
        · exact absurd h1 hne
        · rcases hS with hS | rfl
          · obtain ⟨a1, a2⟩ := E.apart _ _ _ _ _ hi hS p2 hne
            refine ⟨a1, fun h => ?_⟩
            rcases h with h | h
            · exact e3 h.1
            · exact a2 h.2
          · refine ⟨fun hs => H.sep k d l c1 hk hd p2 (Ne.symm e4) hs.symm, fun h => ?_⟩
            · rcases h with h | h
              · exact e3 h.1
              · exact (E.apart _ _ _ _ _ p2 h.2 hk (Ne.symm e4)).1 rfl
      · rcases get j f hf with ⟨h1, _⟩ | ⟨_, e2, c0, g2, _⟩
        · exact absurd h1 e1
        · rcases get l g hl with ⟨rfl, _⟩ | ⟨e3, e4, c1, p2, _⟩
          · obtain ⟨a1, a2⟩ := E.apart _ _ _ _ _ g2 hS hi hne
            refine ⟨a1, fun h => ?_⟩
            rcases h with h | h
            · rcases h.2 with h | h
              · exact a2 h
              · exact (E.apart _ _ _ _ _ g2 hS hk (Ne.symm e2)).1 h.symm
            · exact h.1 rfl
          · obtain ⟨a1, a2⟩ := E.apart _ _ _ _ _ g2 hS p2 hne
            refine ⟨a1, fun h => ?_⟩
            rcases h with h | h
            · exact e3 h.1
            · exact a2 h.2
  · rw [hv r.b r.o ρ r' hρ hr']; exact hdn.self
end Go.Proofs.YtdnkeeedcnjofaaGreatDoor.Sx


/-
  The document's Parse.
-/
set_option linter.unusedVariables false
set_option linter.unusedSimpArgs false
namespace Go.Proofs.YtdnkeeedcnjofaaGreatDoor
open Go Go.RowKit Sx

theorem calls_rvT [ZW] {f : FuncId} {fn : Func} {c : Code} {vs : List Value} {V : Value} (W : World) (hz : ZW.z = some W) (hG : TysOK Tryz.prog tys) (hm : Tryz.prog.follows .mixedOrders = true) (hf : Tryz.prog.funcs[f]? = some fn) (hb : fn.body = some c) (hW : 0 < W.heap.size) (hp : vs.all plain2 = true) (hV : plain3 V = true)
    (hwp : initK vs fn.ntmps fun t => wpC Tryz.prog tys 1 c (bodyQ Tryz.prog tys fn fun v st => N (v = V ∧ ∃ R, st.h[0]? = some (some (rvC R)))) ⟨t, [some (rvC [])]⟩) : Calls Tryz.prog f ⟨vs⟩ W fun e w' => e = .returned V ∧ Below W.heap.size W w' := by
  let X : Ctx := ⟨W, fun a => a.block < W.heap.size, 1, fun _ => (0, 0)⟩
  have one : ∀ (k : Nat) (d : Chunk), [some (rvC [])][k]? = some (some d) → k = 0 ∧ d = rvC [] := fun k d hk => by
    cases k with
    | zero => exact ⟨rfl, by simpa using hk.symm⟩
    | succ k => simp at hk
  have H : HOK X (fun _ => (0, 0)) [some (rvC [])] W := by
    refine ⟨Evo.refl _ _, fun i hi => ⟨⟨_, by
        have hi : i < 1 := hi
        obtain rfl : i = 0 := by omega
        rfl⟩, rfl⟩, fun k d hk => hW, fun k d hk j hj => ?_, fun k d hk ho j hj => ?_, fun k d l e hk ho hl hne => ?_, fun i b => i = 0 ∧ b < W.heap.size, fun k d hk => ?_, fun k d b hk hS => ?_, fun k d b l e hk hS hl hne => ?_⟩
    · obtain ⟨rfl, rfl⟩ := one k d hk; exact absurd hj (Nat.not_lt_zero j)
    · obtain ⟨rfl, rfl⟩ := one k d hk; exact absurd hj (Nat.not_lt_zero j)
    · exact absurd ((one k d hk).1.trans (one l e hl).1.symm) hne
    · obtain ⟨rfl, rfl⟩ := one k d hk
      refine ⟨List.nodup_nil, (fun r hr => by cases hr), fun W' hW' => ?_⟩
      rw [hz] at hW'
      obtain rfl := Option.some.inj hW'
      exact ⟨hW, Nat.le_refl _, fun b hb => ⟨⟨rfl, hb⟩, rfl⟩⟩
    · obtain ⟨rfl, rfl⟩ := one k d hk
      exact ⟨.inl rfl, hS.2, .inr ⟨hS.2, fun _ => hS.2⟩⟩
    · exact absurd ((one l e hl).1.trans (one k d hk).1.symm) hne
  have hd : ∀ {vs : List Value}, vs.all plain2 = true → All2 (Den (Fil [some (rvC [])]) (fun _ => (0, 0))) vs vs := by
    intro vs
    induction vs with
    | nil => exact fun _ => trivial
    | cons v r ih =>
      intro hp
      simp only [List.all_cons, Bool.and_eq_true] at hp
      exact ⟨Den.plain hp.1, ih hp.2⟩
  refine (calls_sx (args := ⟨vs⟩) (X := X) hG hm hf hb H (hd hp) hwp).mono ?_
  rintro e w' ⟨ρ', v, st, x, rfl, H', hdx, hq⟩
  obtain ⟨rfl, R, hF⟩ := hq.out
  obtain ⟨S, E⟩ := H'.ext
  have M : RvOK R (ρ' 0) (S 0) w' := E.inv 0 _ hF
  exact ⟨by rw [← hdx.self, den_plain3 hV], H'.evo.os, H'.evo.tape, H'.evo.output, H'.evo.size, fun b hb => ((M.base W hz).2.2 b hb).2⟩

theorem rvT_re [ZW] {ix : List (Nat × Nat)} {R R' : List Rw} : ∀ j, j < 0 → Re1 ix ((rvC R).f j) ((rvC R').f j) := fun j hj => absurd hj (Nat.not_lt_zero j)
theorem rvT_ren [ZW] {ix : List (Nat × Nat)} {R : List Rw} : ChunkReLe ix (rvC R) (rvC R) := ⟨id, Nat.le_refl _, rvT_re⟩
theorem intT_eqn {k : IntKind} {a b : Int} (h : a = b) : Value.int k a = .int k b := by rw [h]
theorem rdT_all {o : Bool} {n m : Nat} {l : List Value} (hl : l.length = n) (hm : m = n) : Reads ⟨o, n, [(0, n, .agg ⟨l⟩)]⟩ 0 true m (.agg ⟨l⟩) := by
  subst hl hm
  refine ⟨Nat.le_of_eq (Nat.zero_add _), _, rfl, rfl, fun j hj => ?_⟩
  show cellOf _ _ = _
  rw [cellOf_cons, if_pos (by omega), Nat.zero_add, Nat.sub_zero]; rfl
theorem call_rvP [ZW] {g : FuncId} {vs : List Value} {h : List (Option Chunk)} {v : Value} (i : Nat) (W : World) (hz : ZW.z = some W) {R : List Rw} (hi : h[i]? = some (some (rvC R))) (hp : vs.all plain2 = true) (hv : plain3 v = true) (hr : ∀ xs w, (callFunc g xs).run Tryz.prog w = .ok (.enter g xs) w)
    (hc : ∀ w, Kept W w → Calls Tryz.prog g ⟨vs⟩ w fun e w' => e = .returned v ∧ Below w.heap.size w w') : CallOK Tryz.prog g vs h v [] [i] :=
  fun h₂ hrh _ X ρ w xs H hx => by
    obtain rfl := den_all_eq hp hx
    have hk : Kept W w := by
      obtain ⟨S, E⟩ := H.ext
      have V : RvOK R (ρ i) (S i) w := E.inv i _ ((hrh i (List.mem_singleton.2 rfl)).trans hi)
      obtain ⟨h1, h2, h3⟩ := V.base W hz
      exact ⟨h2, fun b hb => (h3 b hb).2⟩
    refine .inr ⟨hr _ w, (hc w hk).mono ?_⟩
    rintro e w' ⟨rfl, hb⟩
    exact ⟨v, rfl, ρ, AgreeOn.refl _ _, H.frame hb, fun r _ => den_plain3 hv r⟩
/-- Whole numbers of our own that grow. -/
structure OL (oe : Option Rw) (M : List Int) : Prop where
  n : rowN oe = M.length
  xs : rowXs oe = M.map (Value.int .i64)
  ty : ∀ r, oe = some r → r.e = 2 ∧ r.k = 1 ∧ r.w = true
theorem OL.nil : OL none [] := ⟨rfl, rfl, (fun r h => by cases h)⟩
theorem OL.grew {oe oe' : Option Rw} {M M2 : List Int} (h : OL oe M) (hg : Grew oe oe' 2 1 M2.length (M2.map (Value.int .i64))) : OL oe' (M ++ M2) :=
  ⟨by rw [hg.n, h.n, List.length_append], by rw [hg.xs, h.xs, List.map_append], hg.ty⟩
theorem int64_info : ∃ ei z, Tryz.prog.info? 2 = some ei ∧ ei.size = 1 ∧ ei.bytes ≤ 1000 ∧ ei.zero = some z ∧ z.cells.size = 1 := by
  obtain ⟨ei, d, h1, h2, h3⟩ := lookT_out tysOK (t := 2) (K := fun ei _ => ei.size = 1 ∧ ei.bytes ≤ 1000 ∧ ∃ z, ei.zero = some z ∧ z.cells.size = 1) ⟨rfl, by decide, _, rfl, rfl⟩
  obtain ⟨h3, h4, z, h5, h6⟩ := h3
  exact ⟨ei, z, h1, h3, h4, h5, h6⟩
theorem intsL_one (M : List Int) : ∀ u ∈ M.map (Value.int .i64), u.oneCell' = true := fun u hu => by
  obtain ⟨e, _, rfl⟩ := List.mem_map.1 hu
  rfl
theorem appL [ZW] {o : Oper} {st : St} {x y : Operand} {p : Value} {own : Bool} {n : Nat} {ps : List (Nat × Nat × Value)} {K : Value → List (Nat × Chunk) → Prop} (oe : Option Rw) (R : List Rw) (M M2 : List Int) (i : Nat) (hs : List Nat) (hoe : OL oe M)
    (ho : o.op = .call ⟨.builtin .append, #[x, y], #[39, 39]⟩) (hx : EvTo x st p) (hp : ∀ ρ, den ρ p = uR (rowO oe)) (hi : st.h[i]? = some (some (@Chunk.mk (rvX (rowL oe R)) own n ps)))
    (hsrc : SrcN y st hs M2.length 1 (M2.map (Value.int .i64))) (hl : M.length + M2.length ≤ 100000) (hK : ∀ oe', OL oe' (M ++ M2) → K (uV (rowO oe')) [(i, @Chunk.mk (rvX (rowL oe' R)) own n ps)]) : N (EffAll Tryz.prog o st K) := by
  obtain ⟨ei, z, h1, h2, h3, h4, h5⟩ := int64_info
  have hb : (rowN oe + M2.length) * ei.bytes ≤ 100000 * 1000 := Nat.mul_le_mul (by rw [hoe.n]; exact hl) h3
  exact app_now (e := 2) (ei := ei) (z := z) oe R i M2.length (M2.map (Value.int .i64)) ho hx hp Tryz.underlying39 h1 h4 (by rw [h5, h2]) (by rw [h2]; decide) hi (fun r hr => by rw [h2]; exact hoe.ty r hr) hs (by rw [h2]; exact hsrc) (intsL_one M2) (by rw [hoe.n]; omega) (by omega) fun oe' hg => hK oe' (hoe.grew (by rw [h2] at hg; exact hg))
theorem cRNumber (s : ByteArray) (hs : s.size ≤ 1000) (h : List (Option Chunk)) : CallOK Tryz.prog 14 [.string s] h (.tuple #[.int .i64 (Txt.numF s.data.toList).1, .bool (Txt.numF s.data.toList).2]) [] [] := call_pure rfl rfl (Tryz.call14 _) (rnumber_x s hs)
/-- What the document's Parse answers. -/
def docW (s : ByteArray) : Option (List Int) → Value
  | some [x, y, a, b, d] => if mayP x y a b d ∧ textB x y a b d = s then .tuple #[.agg #[.int .i64 x, .int .i64 y, .int .i64 a, .int .i64 b, .int .i64 d], .bool true] else .tuple #[.agg #[.int .i64 0, .int .i64 0, .int .i64 0, .int .i64 0, .int .i64 0], .bool false]
  | _ => .tuple #[.agg #[.int .i64 0, .int .i64 0, .int .i64 0, .int .i64 0, .int .i64 0], .bool false]
def docV (s : ByteArray) : Value := docW s (Txt.docL (Txt.pieces s.data.toList) [])
theorem plain_docV (s : ByteArray) : plain3 (docV s) = true := by
  unfold docV
  generalize Txt.docL (Txt.pieces s.data.toList) [] = o
  unfold docW
  split
  · split <;> rfl
  · rfl
structure Pq where
  i : Nat
  f : Nat
  oe : Option Rw
  L : List Int
structure PqOK (s : ByteArray) (q : Pq) : Prop where
  le : q.i ≤ s.size + 1
  fi : q.f ≤ q.i
  l5 : q.L.length ≤ 5
  ol : OL q.oe q.L
  go : q.i ≤ s.size → Txt.docL (Txt.pieces s.data.toList) [] = Txt.docL (Txt.pre ((s.data.toList.take q.i).drop q.f) (Txt.pieces (s.data.toList.drop q.i))) q.L
  en : s.size < q.i → Txt.docL (Txt.pieces s.data.toList) [] = some q.L
theorem cRN {s : ByteArray} {r : Int × Bool} (hn : Txt.numF s.data.toList = r) (hs : s.size ≤ 1000) (h : List (Option Chunk)) : CallOK Tryz.prog 14 [.string s] h (.tuple #[.int .i64 r.1, .bool r.2]) [] [] := by
  subst hn
  exact cRNumber s hs h
theorem ne_byte {c : UInt8} {k : Nat} (hk : k < 256) (h : ¬ c = UInt8.ofNat k) : (((c.toNat : Nat) : Int) != (k : Int)) = true := by
  rw [bne_iff_ne]
  intro e
  refine h (UInt8.toNat_inj.1 ?_)
  rw [UInt8.toNat_ofNat']
  omega
theorem drop_take_nil {α : Type} (l : List α) (n : Nat) : (l.take n).drop n = [] := List.drop_eq_nil_of_le (by rw [List.length_take]; omega)
theorem drop_get {s : ByteArray} {i : Nat} {c : UInt8} (hc : s[i]? = some c) : s.data.toList.drop i = c :: s.data.toList.drop (i + 1) := by
  rw [ba_get] at hc
  obtain ⟨hl, rfl⟩ := List.getElem?_eq_some_iff.1 hc
  exact List.drop_eq_getElem_cons hl
set_option maxRecDepth 100000 in
set_option maxHeartbeats 4000000 in
theorem rparse_x (s : ByteArray) (hs : s.size ≤ 300) (W : World) (hW : TxOK W) : Calls Tryz.prog 6 #[.string s] W fun e w' => e = .returned (docV s) ∧ Below W.heap.size W w' := by
  letI : ZW := ⟨some W⟩
  have hz := ba_size s
  refine calls_rvT (vs := [.string s]) W rfl tysOK mixed Tryz.func6 (by rfl) hW.pos rfl (plain_docV s) ?_
  repeat' (refine N.go ?_; first | with_reducible refine N.obl (by decide) ?_ | with_reducible refine N.obl (flat_wi _ _ _) ?_ | with_reducible refine N.obl (flat_lim _ _) ?_ | with_reducible refine N.eq ?_ | with_reducible refine N.obl rfl ?_ | with_reducible refine N.obl ⟨by kernel_rfl, by kernel_rfl⟩ ?_ | with_reducible refine N.alt ?_ | with_reducible refine N.forkT ?_ | with_reducible refine N.forkF ?_ | fail_if_success skip)
  refine N.go ?_
  refine N.loopR (α := Pq) (PqOK s) (fun q => s.size + 1 - q.i) (fun q => [(4, uV (rowO q.oe)), (5, .int .i64 (q.f : Nat)), (6, .int .i64 (q.i : Nat))]) (fun q => [(0, rvC (rowL q.oe []))]) ⟨0, 0, none, []⟩ [(0, 0), (1, 1)] ⟨Nat.zero_le _, Nat.le_refl _, by decide, OL.nil, (fun _ => by show _ = Txt.docL (Txt.pre ((s.data.toList.take 0).drop 0) (Txt.pieces s.data.toList)) []; rw [List.take_zero, List.drop_nil, Txt.pre_nil]), (fun h => absurd h (Nat.not_lt_zero _))⟩ ?_ ?_
  · repeat' (refine N.go ?_; first | with_reducible refine N.obl (by decide) ?_ | with_reducible refine N.obl (flat_wi _ _ _) ?_ | with_reducible refine N.obl (flat_lim _ _) ?_ | with_reducible refine N.eq ?_ | with_reducible refine N.obl rfl ?_ | with_reducible refine N.obl ⟨by kernel_rfl, by kernel_rfl⟩ ?_ | with_reducible refine N.alt ?_ | with_reducible refine N.forkT ?_ | with_reducible refine N.forkF ?_ | exact N.true | refine N.obl (.plain (by rfl)) ?_ | refine N.obl (re_eqn (intT_eqn ek.symm) rfl) ?_ | refine N.obl (.one (.ptr rfl)) ?_ | refine N.obl rvT_ren ?_ | refine N.obl (ChunkReLe.same (agg_plain (by rfl) (by rfl))) ?_ | refine N.obl (.one .quo) ?_ | refine N.obl (.one (.any (fun _ _ => rfl) fun _ _ => rfl)) ?_ | fail_if_success skip)
  intro q hq
  have hqi := hq.le
  have hqf := hq.fi
  have hq5 := hq.l5
  have ek : IntKind.i64.wrap ((q.i : Int) + 1) = ((q.i + 1 : Nat) : Int) := by rw [i64s _ (by omega) (by omega)]; rfl
  by_cases hin : q.i ≤ s.size
  · by_cases hlt : q.i < s.size
    · obtain ⟨c, hc⟩ : ∃ c, s[q.i]? = some c := ⟨_, getElem?_pos s q.i hlt⟩
      by_cases hsep : Txt.isSep c = true
      · by_cases h44 : c = 44
        · have e44 : (((c.toNat : Nat) : Int) != 44) = false := by rw [h44]; rfl
          have hcur : (s.extract q.f q.i).data.toList = (s.data.toList.take q.i).drop q.f := by rw [ba_ext, List.drop_take]
          have hcs : (s.extract q.f q.i).size ≤ 1000 := by
            rw [← ba_size, hcur, List.length_drop, List.length_take]; omega
          have hgo := hq.go hin
          have hd := drop_get hc
          rw [hd, Txt.pre_sep _ _ hsep, ← hcur] at hgo
          have hdoc : Txt.docL (Txt.pieces s.data.toList) [] = if (Txt.numF (s.extract q.f q.i).data.toList).2 = true ∧ q.L.length < 5 then Txt.docL (Txt.pre [] (Txt.pieces (s.data.toList.drop (q.i + 1)))) (q.L ++ [(Txt.numF (s.extract q.f q.i).data.toList).1]) else none := hgo
          generalize hn : Txt.numF (s.extract q.f q.i).data.toList = r at *
          by_cases hok : r.2 = true ∧ q.L.length < 5
          · have hlen : ((uN (rowO q.oe) : Nat) : Int) = ((q.L.length : Nat) : Int) := by rw [rowO_n, hq.ol.n]
            repeat' (refine N.go ?_; first | with_reducible refine N.obl (by decide) ?_ | with_reducible refine N.obl (flat_wi _ _ _) ?_ | with_reducible refine N.obl (flat_lim _ _) ?_ | with_reducible refine N.eq ?_ | with_reducible refine N.obl rfl ?_ | with_reducible refine N.obl ⟨by kernel_rfl, by kernel_rfl⟩ ?_ | with_reducible refine N.alt ?_ | with_reducible refine N.forkT ?_ | with_reducible refine N.forkF ?_ | refine N.lenS Tryz.underlying9 ?_ | refine N.forkYes (decide_eq_true (by omega)) ?_ | refine N.forkNo (decide_eq_false (by omega)) ?_ | refine N.idxS q.i c rfl hc ?_ | refine N.forkNo e44 ?_ | fail_if_success skip)
            refine N.go ?_
            refine N.bndT q.f q.i 0 ⟨rfl, by omega⟩ ⟨rfl, by omega⟩ ?_
            repeat' (refine N.go ?_; first | with_reducible refine N.obl (by decide) ?_ | with_reducible refine N.obl (flat_wi _ _ _) ?_ | with_reducible refine N.obl (flat_lim _ _) ?_ | with_reducible refine N.eq ?_ | with_reducible refine N.obl rfl ?_ | with_reducible refine N.obl ⟨by kernel_rfl, by kernel_rfl⟩ ?_ | with_reducible refine N.alt ?_ | with_reducible refine N.forkT ?_ | with_reducible refine N.forkF ?_ | refine N.call (cRN hn hcs _) ?_ | refine N.op (ok_lenU rfl rfl ⟨_, rfl, _, Tryz.underlying39⟩) ?_ | refine N.forkNo (by rw [hok.1]; rfl) ?_ | refine N.forkYes (decide_eq_true (by omega)) ?_ | refine N.forkNo (decide_eq_false (by omega)) ?_ | fail_if_success skip)
            refine N.go ?_
            refine appL q.oe [] q.L [r.1] 0 [_] hq.ol rfl rfl (fun ρ => uV_den _ ρ) (by rfl) (src_chunk [_] (List.mem_singleton.2 rfl) rfl (by rfl) (rdT_all (by rfl) (by rfl)) rfl) (by show _ + 1 ≤ _; omega) fun oe' hoe' => ?_
            repeat' (refine N.go ?_; first | with_reducible refine N.obl (by decide) ?_ | with_reducible refine N.obl (flat_wi _ _ _) ?_ | with_reducible refine N.obl (flat_lim _ _) ?_ | with_reducible refine N.eq ?_ | with_reducible refine N.obl rfl ?_ | with_reducible refine N.obl ⟨by kernel_rfl, by kernel_rfl⟩ ?_ | with_reducible refine N.alt ?_ | with_reducible refine N.forkT ?_ | with_reducible refine N.forkF ?_ | fail_if_success skip)
            refine N.go ?_
            refine N.nextR (α := Pq) ⟨q.i + 1, q.i + 1, oe', q.L ++ [r.1]⟩ [(0, 0), (1, 1)] ⟨⟨by show q.i + 1 ≤ _; omega, Nat.le_refl _, by show (q.L ++ [r.1]).length ≤ 5; rw [List.length_append]; show _ + 1 ≤ 5; omega, hoe', (fun _ => by show _ = Txt.docL (Txt.pre ((s.data.toList.take (q.i + 1)).drop (q.i + 1)) _) _; rw [hdoc, if_pos hok, drop_take_nil]), (fun h => by have h : s.size < q.i + 1 := h; omega)⟩, by show s.size + 1 - (q.i + 1) < s.size + 1 - q.i; omega⟩ ?_
            repeat' (refine N.go ?_; first | with_reducible refine N.obl (by decide) ?_ | with_reducible refine N.obl (flat_wi _ _ _) ?_ | with_reducible refine N.obl (flat_lim _ _) ?_ | with_reducible refine N.eq ?_ | with_reducible refine N.obl rfl ?_ | with_reducible refine N.obl ⟨by kernel_rfl, by kernel_rfl⟩ ?_ | with_reducible refine N.alt ?_ | with_reducible refine N.forkT ?_ | with_reducible refine N.forkF ?_ | exact N.true | refine N.obl (.plain (by rfl)) ?_ | refine N.obl (re_eqn (intT_eqn ek.symm) rfl) ?_ | refine N.obl (.one (.ptr rfl)) ?_ | refine N.obl rvT_ren ?_ | refine N.obl (ChunkReLe.same (agg_plain (by rfl) (by rfl))) ?_ | refine N.obl (.one .quo) ?_ | refine N.obl (.one (.any (fun _ _ => rfl) fun _ _ => rfl)) ?_ | fail_if_success skip)
          · have hV : docV s = docW s none := by
              unfold docV
              rw [hdoc, if_neg hok]
            rw [hV]
            by_cases hr2 : r.2 = true
            · have hlen : ((uN (rowO q.oe) : Nat) : Int) = ((q.L.length : Nat) : Int) := by rw [rowO_n, hq.ol.n]
              have hl5 : ¬ q.L.length < 5 := fun h => hok ⟨hr2, h⟩
              repeat' (refine N.go ?_; first | with_reducible refine N.obl (by decide) ?_ | with_reducible refine N.obl (flat_wi _ _ _) ?_ | with_reducible refine N.obl (flat_lim _ _) ?_ | with_reducible refine N.eq ?_ | with_reducible refine N.obl rfl ?_ | with_reducible refine N.obl ⟨by kernel_rfl, by kernel_rfl⟩ ?_ | with_reducible refine N.alt ?_ | with_reducible refine N.forkT ?_ | with_reducible refine N.forkF ?_ | refine N.lenS Tryz.underlying9 ?_ | refine N.forkYes (decide_eq_true (by omega)) ?_ | refine N.forkNo (decide_eq_false (by omega)) ?_ | refine N.idxS q.i c rfl hc ?_ | refine N.forkNo e44 ?_ | fail_if_success skip)
              refine N.go ?_
              refine N.bndT q.f q.i 0 ⟨rfl, by omega⟩ ⟨rfl, by omega⟩ ?_
              repeat' (refine N.go ?_; first | with_reducible refine N.obl (by decide) ?_ | with_reducible refine N.obl (flat_wi _ _ _) ?_ | with_reducible refine N.obl (flat_lim _ _) ?_ | with_reducible refine N.eq ?_ | with_reducible refine N.obl rfl ?_ | with_reducible refine N.obl ⟨by kernel_rfl, by kernel_rfl⟩ ?_ | with_reducible refine N.alt ?_ | with_reducible refine N.forkT ?_ | with_reducible refine N.forkF ?_ | refine N.call (cRN hn hcs _) ?_ | refine N.op (ok_lenU rfl rfl ⟨_, rfl, _, Tryz.underlying39⟩) ?_ | refine N.forkNo (by rw [hr2]; rfl) ?_ | refine N.forkYes (decide_eq_true (by omega)) ?_ | refine N.forkNo (decide_eq_false (by omega)) ?_ | fail_if_success skip)
              refine N.go ?_
              exact N.mk ⟨rfl, _, rfl⟩
            · repeat' (refine N.go ?_; first | with_reducible refine N.obl (by decide) ?_ | with_reducible refine N.obl (flat_wi _ _ _) ?_ | with_reducible refine N.obl (flat_lim _ _) ?_ | with_reducible refine N.eq ?_ | with_reducible refine N.obl rfl ?_ | with_reducible refine N.obl ⟨by kernel_rfl, by kernel_rfl⟩ ?_ | with_reducible refine N.alt ?_ | with_reducible refine N.forkT ?_ | with_reducible refine N.forkF ?_ | refine N.lenS Tryz.underlying9 ?_ | refine N.forkYes (decide_eq_true (by omega)) ?_ | refine N.forkNo (decide_eq_false (by omega)) ?_ | refine N.idxS q.i c rfl hc ?_ | refine N.forkNo e44 ?_ | fail_if_success skip)
              refine N.go ?_
              refine N.bndT q.f q.i 0 ⟨rfl, by omega⟩ ⟨rfl, by omega⟩ ?_
              repeat' (refine N.go ?_; first | with_reducible refine N.obl (by decide) ?_ | with_reducible refine N.obl (flat_wi _ _ _) ?_ | with_reducible refine N.obl (flat_lim _ _) ?_ | with_reducible refine N.eq ?_ | with_reducible refine N.obl rfl ?_ | with_reducible refine N.obl ⟨by kernel_rfl, by kernel_rfl⟩ ?_ | with_reducible refine N.alt ?_ | with_reducible refine N.forkT ?_ | with_reducible refine N.forkF ?_ | refine N.call (cRN hn hcs _) ?_ | refine N.forkYes (by rw [eq_false_of_ne_true hr2]; rfl) ?_ | fail_if_success skip)
              refine N.go ?_
              exact N.mk ⟨rfl, _, rfl⟩
        · have e44 : (((c.toNat : Nat) : Int) != 44) = true := ne_byte (by decide) h44
          have e47 : (((c.toNat : Nat) : Int) != 47) = false := by
            have h : c = 47 := by
              unfold Txt.isSep at hsep
              rw [beq_false_of_ne h44, Bool.false_or] at hsep
              exact beq_iff_eq.1 hsep
            rw [h]; rfl
          have hcur : (s.extract q.f q.i).data.toList = (s.data.toList.take q.i).drop q.f := by rw [ba_ext, List.drop_take]
          have hcs : (s.extract q.f q.i).size ≤ 1000 := by
            rw [← ba_size, hcur, List.length_drop, List.length_take]; omega
          have hgo := hq.go hin
          have hd := drop_get hc
          rw [hd, Txt.pre_sep _ _ hsep, ← hcur] at hgo
          have hdoc : Txt.docL (Txt.pieces s.data.toList) [] = if (Txt.numF (s.extract q.f q.i).data.toList).2 = true ∧ q.L.length < 5 then Txt.docL (Txt.pre [] (Txt.pieces (s.data.toList.drop (q.i + 1)))) (q.L ++ [(Txt.numF (s.extract q.f q.i).data.toList).1]) else none := hgo
          generalize hn : Txt.numF (s.extract q.f q.i).data.toList = r at *
          by_cases hok : r.2 = true ∧ q.L.length < 5
          · have hlen : ((uN (rowO q.oe) : Nat) : Int) = ((q.L.length : Nat) : Int) := by rw [rowO_n, hq.ol.n]
            repeat' (refine N.go ?_; first | with_reducible refine N.obl (by decide) ?_ | with_reducible refine N.obl (flat_wi _ _ _) ?_ | with_reducible refine N.obl (flat_lim _ _) ?_ | with_reducible refine N.eq ?_ | with_reducible refine N.obl rfl ?_ | with_reducible refine N.obl ⟨by kernel_rfl, by kernel_rfl⟩ ?_ | with_reducible refine N.alt ?_ | with_reducible refine N.forkT ?_ | with_reducible refine N.forkF ?_ | refine N.lenS Tryz.underlying9 ?_ | refine N.forkYes (decide_eq_true (by omega)) ?_ | refine N.forkNo (decide_eq_false (by omega)) ?_ | refine N.idxS q.i c rfl hc ?_ | refine N.forkYes e44 ?_ | refine N.forkNo e47 ?_ | fail_if_success skip)
            refine N.go ?_
            refine N.bndT q.f q.i 0 ⟨rfl, by omega⟩ ⟨rfl, by omega⟩ ?_
            repeat' (refine N.go ?_; first | with_reducible refine N.obl (by decide) ?_ | with_reducible refine N.obl (flat_wi _ _ _) ?_ | with_reducible refine N.obl (flat_lim _ _) ?_ | with_reducible refine N.eq ?_ | with_reducible refine N.obl rfl ?_ | with_reducible refine N.obl ⟨by kernel_rfl, by kernel_rfl⟩ ?_ | with_reducible refine N.alt ?_ | with_reducible refine N.forkT ?_ | with_reducible refine N.forkF ?_ | refine N.call (cRN hn hcs _) ?_ | refine N.op (ok_lenU rfl rfl ⟨_, rfl, _, Tryz.underlying39⟩) ?_ | refine N.forkNo (by rw [hok.1]; rfl) ?_ | refine N.forkYes (decide_eq_true (by omega)) ?_ | refine N.forkNo (decide_eq_false (by omega)) ?_ | fail_if_success skip)
            refine N.go ?_
            refine appL q.oe [] q.L [r.1] 0 [_] hq.ol rfl rfl (fun ρ => uV_den _ ρ) (by rfl) (src_chunk [_] (List.mem_singleton.2 rfl) rfl (by rfl) (rdT_all (by rfl) (by rfl)) rfl) (by show _ + 1 ≤ _; omega) fun oe' hoe' => ?_
            repeat' (refine N.go ?_; first | with_reducible refine N.obl (by decide) ?_ | with_reducible refine N.obl (flat_wi _ _ _) ?_ | with_reducible refine N.obl (flat_lim _ _) ?_ | with_reducible refine N.eq ?_ | with_reducible refine N.obl rfl ?_ | with_reducible refine N.obl ⟨by kernel_rfl, by kernel_rfl⟩ ?_ | with_reducible refine N.alt ?_ | with_reducible refine N.forkT ?_ | with_reducible refine N.forkF ?_ | fail_if_success skip)
            refine N.go ?_
            refine N.nextR (α := Pq) ⟨q.i + 1, q.i + 1, oe', q.L ++ [r.1]⟩ [(0, 0), (1, 1)] ⟨⟨by show q.i + 1 ≤ _; omega, Nat.le_refl _, by show (q.L ++ [r.1]).length ≤ 5; rw [List.length_append]; show _ + 1 ≤ 5; omega, hoe', (fun _ => by show _ = Txt.docL (Txt.pre ((s.data.toList.take (q.i + 1)).drop (q.i + 1)) _) _; rw [hdoc, if_pos hok, drop_take_nil]), (fun h => by have h : s.size < q.i + 1 := h; omega)⟩, by show s.size + 1 - (q.i + 1) < s.size + 1 - q.i; omega⟩ ?_
            repeat' (refine N.go ?_; first | with_reducible refine N.obl (by decide) ?_ | with_reducible refine N.obl (flat_wi _ _ _) ?_ | with_reducible refine N.obl (flat_lim _ _) ?_ | with_reducible refine N.eq ?_ | with_reducible refine N.obl rfl ?_ | with_reducible refine N.obl ⟨by kernel_rfl, by kernel_rfl⟩ ?_ | with_reducible refine N.alt ?_ | with_reducible refine N.forkT ?_ | with_reducible refine N.forkF ?_ | exact N.true | refine N.obl (.plain (by rfl)) ?_ | refine N.obl (re_eqn (intT_eqn ek.symm) rfl) ?_ | refine N.obl (.one (.ptr rfl)) ?_ | refine N.obl rvT_ren ?_ | refine N.obl (ChunkReLe.same (agg_plain (by rfl) (by rfl))) ?_ | refine N.obl (.one .quo) ?_ | refine N.obl (.one (.any (fun _ _ => rfl) fun _ _ => rfl)) ?_ | fail_if_success skip)
          · have hV : docV s = docW s none := by
              unfold docV
              rw [hdoc, if_neg hok]
            rw [hV]
            by_cases hr2 : r.2 = true
            · have hlen : ((uN (rowO q.oe) : Nat) : Int) = ((q.L.length : Nat) : Int) := by rw [rowO_n, hq.ol.n]
              have hl5 : ¬ q.L.length < 5 := fun h => hok ⟨hr2, h⟩
              repeat' (refine N.go ?_; first | with_reducible refine N.obl (by decide) ?_ | with_reducible refine N.obl (flat_wi _ _ _) ?_ | with_reducible refine N.obl (flat_lim _ _) ?_ | with_reducible refine N.eq ?_ | with_reducible refine N.obl rfl ?_ | with_reducible refine N.obl ⟨by kernel_rfl, by kernel_rfl⟩ ?_ | with_reducible refine N.alt ?_ | with_reducible refine N.forkT ?_ | with_reducible refine N.forkF ?_ | refine N.lenS Tryz.underlying9 ?_ | refine N.forkYes (decide_eq_true (by omega)) ?_ | refine N.forkNo (decide_eq_false (by omega)) ?_ | refine N.idxS q.i c rfl hc ?_ | refine N.forkYes e44 ?_ | refine N.forkNo e47 ?_ | fail_if_success skip)
              refine N.go ?_
              refine N.bndT q.f q.i 0 ⟨rfl, by omega⟩ ⟨rfl, by omega⟩ ?_
              repeat' (refine N.go ?_; first | with_reducible refine N.obl (by decide) ?_ | with_reducible refine N.obl (flat_wi _ _ _) ?_ | with_reducible refine N.obl (flat_lim _ _) ?_ | with_reducible refine N.eq ?_ | with_reducible refine N.obl rfl ?_ | with_reducible refine N.obl ⟨by kernel_rfl, by kernel_rfl⟩ ?_ | with_reducible refine N.alt ?_ | with_reducible refine N.forkT ?_ | with_reducible refine N.forkF ?_ | refine N.call (cRN hn hcs _) ?_ | refine N.op (ok_lenU rfl rfl ⟨_, rfl, _, Tryz.underlying39⟩) ?_ | refine N.forkNo (by rw [hr2]; rfl) ?_ | refine N.forkYes (decide_eq_true (by omega)) ?_ | refine N.forkNo (decide_eq_false (by omega)) ?_ | fail_if_success skip)
              refine N.go ?_
              exact N.mk ⟨rfl, _, rfl⟩
            · repeat' (refine N.go ?_; first | with_reducible refine N.obl (by decide) ?_ | with_reducible refine N.obl (flat_wi _ _ _) ?_ | with_reducible refine N.obl (flat_lim _ _) ?_ | with_reducible refine N.eq ?_ | with_reducible refine N.obl rfl ?_ | with_reducible refine N.obl ⟨by kernel_rfl, by kernel_rfl⟩ ?_ | with_reducible refine N.alt ?_ | with_reducible refine N.forkT ?_ | with_reducible refine N.forkF ?_ | refine N.lenS Tryz.underlying9 ?_ | refine N.forkYes (decide_eq_true (by omega)) ?_ | refine N.forkNo (decide_eq_false (by omega)) ?_ | refine N.idxS q.i c rfl hc ?_ | refine N.forkYes e44 ?_ | refine N.forkNo e47 ?_ | fail_if_success skip)
              refine N.go ?_
              refine N.bndT q.f q.i 0 ⟨rfl, by omega⟩ ⟨rfl, by omega⟩ ?_
              repeat' (refine N.go ?_; first | with_reducible refine N.obl (by decide) ?_ | with_reducible refine N.obl (flat_wi _ _ _) ?_ | with_reducible refine N.obl (flat_lim _ _) ?_ | with_reducible refine N.eq ?_ | with_reducible refine N.obl rfl ?_ | with_reducible refine N.obl ⟨by kernel_rfl, by kernel_rfl⟩ ?_ | with_reducible refine N.alt ?_ | with_reducible refine N.forkT ?_ | with_reducible refine N.forkF ?_ | refine N.call (cRN hn hcs _) ?_ | refine N.forkYes (by rw [eq_false_of_ne_true hr2]; rfl) ?_ | fail_if_success skip)
              refine N.go ?_
              exact N.mk ⟨rfl, _, rfl⟩
      · have hsep : Txt.isSep c = false := eq_false_of_ne_true hsep
        have hse : ¬ (c = 44) ∧ ¬ (c = 47) := ⟨fun e => by rw [e] at hsep; exact absurd hsep (by decide), fun e => by rw [e] at hsep; exact absurd hsep (by decide)⟩
        have e44 : (((c.toNat : Nat) : Int) != 44) = true := ne_byte (by decide) hse.1
        have e47 : (((c.toNat : Nat) : Int) != 47) = true := ne_byte (by decide) hse.2
        have hgo := hq.go hin
        have hd := drop_get hc
        rw [hd, Txt.pre_go _ _ hsep] at hgo
        have htk : (s.data.toList.take (q.i + 1)).drop q.f = (s.data.toList.take q.i).drop q.f ++ [c] := by
          rw [List.take_add_one, show s.data.toList[q.i]? = some c from by rw [← ba_get]; exact hc]
          exact List.drop_append_of_le_length (by rw [List.length_take, hz]; omega)
        rw [← htk] at hgo
        repeat' (refine N.go ?_; first | with_reducible refine N.obl (by decide) ?_ | with_reducible refine N.obl (flat_wi _ _ _) ?_ | with_reducible refine N.obl (flat_lim _ _) ?_ | with_reducible refine N.eq ?_ | with_reducible refine N.obl rfl ?_ | with_reducible refine N.obl ⟨by kernel_rfl, by kernel_rfl⟩ ?_ | with_reducible refine N.alt ?_ | with_reducible refine N.forkT ?_ | with_reducible refine N.forkF ?_ | refine N.lenS Tryz.underlying9 ?_ | refine N.idxS q.i c rfl hc ?_ | refine N.forkYes e44 ?_ | refine N.forkYes e47 ?_ | refine N.forkYes (decide_eq_true (by omega)) ?_ | refine N.forkNo (decide_eq_false (by omega)) ?_ | fail_if_success skip)
        refine N.go ?_
        refine N.nextR (α := Pq) ⟨q.i + 1, q.f, q.oe, q.L⟩ [(0, 0), (1, 1)] ⟨⟨by show q.i + 1 ≤ _; omega, by show q.f ≤ q.i + 1; omega, hq5, hq.ol, (fun _ => hgo), (fun h => by have h : s.size < q.i + 1 := h; omega)⟩, by show s.size + 1 - (q.i + 1) < s.size + 1 - q.i; omega⟩ ?_
        repeat' (refine N.go ?_; first | with_reducible refine N.obl (by decide) ?_ | with_reducible refine N.obl (flat_wi _ _ _) ?_ | with_reducible refine N.obl (flat_lim _ _) ?_ | with_reducible refine N.eq ?_ | with_reducible refine N.obl rfl ?_ | with_reducible refine N.obl ⟨by kernel_rfl, by kernel_rfl⟩ ?_ | with_reducible refine N.alt ?_ | with_reducible refine N.forkT ?_ | with_reducible refine N.forkF ?_ | exact N.true | refine N.obl (.plain (by rfl)) ?_ | refine N.obl (re_eqn (intT_eqn ek.symm) rfl) ?_ | refine N.obl (.one (.ptr rfl)) ?_ | refine N.obl rvT_ren ?_ | refine N.obl (ChunkReLe.same (agg_plain (by rfl) (by rfl))) ?_ | refine N.obl (.one .quo) ?_ | refine N.obl (.one (.any (fun _ _ => rfl) fun _ _ => rfl)) ?_ | fail_if_success skip)
    · have hcur : (s.extract q.f q.i).data.toList = (s.data.toList.take q.i).drop q.f := by rw [ba_ext, List.drop_take]
      have hcs : (s.extract q.f q.i).size ≤ 1000 := by
        rw [← ba_size, hcur, List.length_drop, List.length_take]; omega
      have hgo := hq.go hin
      have hd : s.data.toList.drop q.i = [] := List.drop_eq_nil_of_le (by rw [ba_size]; omega)
      rw [hd] at hgo
      have hgo : Txt.docL (Txt.pieces s.data.toList) [] = Txt.docL [(s.data.toList.take q.i).drop q.f ++ []] q.L := hgo
      rw [List.append_nil, ← hcur] at hgo
      have hdoc : Txt.docL (Txt.pieces s.data.toList) [] = if (Txt.numF (s.extract q.f q.i).data.toList).2 = true ∧ q.L.length < 5 then some (q.L ++ [(Txt.numF (s.extract q.f q.i).data.toList).1]) else none := hgo
      generalize hn : Txt.numF (s.extract q.f q.i).data.toList = r at *
      by_cases hok : r.2 = true ∧ q.L.length < 5
      · have hlen : ((uN (rowO q.oe) : Nat) : Int) = ((q.L.length : Nat) : Int) := by rw [rowO_n, hq.ol.n]
        repeat' (refine N.go ?_; first | with_reducible refine N.obl (by decide) ?_ | with_reducible refine N.obl (flat_wi _ _ _) ?_ | with_reducible refine N.obl (flat_lim _ _) ?_ | with_reducible refine N.eq ?_ | with_reducible refine N.obl rfl ?_ | with_reducible refine N.obl ⟨by kernel_rfl, by kernel_rfl⟩ ?_ | with_reducible refine N.alt ?_ | with_reducible refine N.forkT ?_ | with_reducible refine N.forkF ?_ | refine N.lenS Tryz.underlying9 ?_ | refine N.forkYes (decide_eq_true (by omega)) ?_ | refine N.forkNo (decide_eq_false (by omega)) ?_ | fail_if_success skip)
        refine N.go ?_
        refine N.bndT q.f q.i 0 ⟨rfl, by omega⟩ ⟨rfl, by omega⟩ ?_
        repeat' (refine N.go ?_; first | with_reducible refine N.obl (by decide) ?_ | with_reducible refine N.obl (flat_wi _ _ _) ?_ | with_reducible refine N.obl (flat_lim _ _) ?_ | with_reducible refine N.eq ?_ | with_reducible refine N.obl rfl ?_ | with_reducible refine N.obl ⟨by kernel_rfl, by kernel_rfl⟩ ?_ | with_reducible refine N.alt ?_ | with_reducible refine N.forkT ?_ | with_reducible refine N.forkF ?_ | refine N.call (cRN hn hcs _) ?_ | refine N.op (ok_lenU rfl rfl ⟨_, rfl, _, Tryz.underlying39⟩) ?_ | refine N.forkNo (by rw [hok.1]; rfl) ?_ | refine N.forkYes (decide_eq_true (by omega)) ?_ | refine N.forkNo (decide_eq_false (by omega)) ?_ | fail_if_success skip)
        refine N.go ?_
        refine appL q.oe [] q.L [r.1] 0 [_] hq.ol rfl rfl (fun ρ => uV_den _ ρ) (by rfl) (src_chunk [_] (List.mem_singleton.2 rfl) rfl (by rfl) (rdT_all (by rfl) (by rfl)) rfl) (by show _ + 1 ≤ _; omega) fun oe' hoe' => ?_
        repeat' (refine N.go ?_; first | with_reducible refine N.obl (by decide) ?_ | with_reducible refine N.obl (flat_wi _ _ _) ?_ | with_reducible refine N.obl (flat_lim _ _) ?_ | with_reducible refine N.eq ?_ | with_reducible refine N.obl rfl ?_ | with_reducible refine N.obl ⟨by kernel_rfl, by kernel_rfl⟩ ?_ | with_reducible refine N.alt ?_ | with_reducible refine N.forkT ?_ | with_reducible refine N.forkF ?_ | fail_if_success skip)
        refine N.go ?_
        refine N.nextR (α := Pq) ⟨q.i + 1, q.i + 1, oe', q.L ++ [r.1]⟩ [(0, 0), (1, 1)] ⟨⟨by show q.i + 1 ≤ _; omega, Nat.le_refl _, by show (q.L ++ [r.1]).length ≤ 5; rw [List.length_append]; show _ + 1 ≤ 5; omega, hoe', (fun h => by have h : q.i + 1 ≤ s.size := h; omega), (fun _ => by show _ = some _; rw [hdoc, if_pos hok])⟩, by show s.size + 1 - (q.i + 1) < s.size + 1 - q.i; omega⟩ ?_
        repeat' (refine N.go ?_; first | with_reducible refine N.obl (by decide) ?_ | with_reducible refine N.obl (flat_wi _ _ _) ?_ | with_reducible refine N.obl (flat_lim _ _) ?_ | with_reducible refine N.eq ?_ | with_reducible refine N.obl rfl ?_ | with_reducible refine N.obl ⟨by kernel_rfl, by kernel_rfl⟩ ?_ | with_reducible refine N.alt ?_ | with_reducible refine N.forkT ?_ | with_reducible refine N.forkF ?_ | exact N.true | refine N.obl (.plain (by rfl)) ?_ | refine N.obl (re_eqn (intT_eqn ek.symm) rfl) ?_ | refine N.obl (.one (.ptr rfl)) ?_ | refine N.obl rvT_ren ?_ | refine N.obl (ChunkReLe.same (agg_plain (by rfl) (by rfl))) ?_ | refine N.obl (.one .quo) ?_ | refine N.obl (.one (.any (fun _ _ => rfl) fun _ _ => rfl)) ?_ | fail_if_success skip)
      · have hV : docV s = docW s none := by
          unfold docV
          rw [hdoc, if_neg hok]
        rw [hV]
        by_cases hr2 : r.2 = true
        · have hlen : ((uN (rowO q.oe) : Nat) : Int) = ((q.L.length : Nat) : Int) := by rw [rowO_n, hq.ol.n]
          have hl5 : ¬ q.L.length < 5 := fun h => hok ⟨hr2, h⟩
          repeat' (refine N.go ?_; first | with_reducible refine N.obl (by decide) ?_ | with_reducible refine N.obl (flat_wi _ _ _) ?_ | with_reducible refine N.obl (flat_lim _ _) ?_ | with_reducible refine N.eq ?_ | with_reducible refine N.obl rfl ?_ | with_reducible refine N.obl ⟨by kernel_rfl, by kernel_rfl⟩ ?_ | with_reducible refine N.alt ?_ | with_reducible refine N.forkT ?_ | with_reducible refine N.forkF ?_ | refine N.lenS Tryz.underlying9 ?_ | refine N.forkYes (decide_eq_true (by omega)) ?_ | refine N.forkNo (decide_eq_false (by omega)) ?_ | fail_if_success skip)
          refine N.go ?_
          refine N.bndT q.f q.i 0 ⟨rfl, by omega⟩ ⟨rfl, by omega⟩ ?_
          repeat' (refine N.go ?_; first | with_reducible refine N.obl (by decide) ?_ | with_reducible refine N.obl (flat_wi _ _ _) ?_ | with_reducible refine N.obl (flat_lim _ _) ?_ | with_reducible refine N.eq ?_ | with_reducible refine N.obl rfl ?_ | with_reducible refine N.obl ⟨by kernel_rfl, by kernel_rfl⟩ ?_ | with_reducible refine N.alt ?_ | with_reducible refine N.forkT ?_ | with_reducible refine N.forkF ?_ | refine N.call (cRN hn hcs _) ?_ | refine N.op (ok_lenU rfl rfl ⟨_, rfl, _, Tryz.underlying39⟩) ?_ | refine N.forkNo (by rw [hr2]; rfl) ?_ | refine N.forkYes (decide_eq_true (by omega)) ?_ | refine N.forkNo (decide_eq_false (by omega)) ?_ | fail_if_success skip)
          refine N.go ?_
          exact N.mk ⟨rfl, _, rfl⟩
        · repeat' (refine N.go ?_; first | with_reducible refine N.obl (by decide) ?_ | with_reducible refine N.obl (flat_wi _ _ _) ?_ | with_reducible refine N.obl (flat_lim _ _) ?_ | with_reducible refine N.eq ?_ | with_reducible refine N.obl rfl ?_ | with_reducible refine N.obl ⟨by kernel_rfl, by kernel_rfl⟩ ?_ | with_reducible refine N.alt ?_ | with_reducible refine N.forkT ?_ | with_reducible refine N.forkF ?_ | refine N.lenS Tryz.underlying9 ?_ | refine N.forkYes (decide_eq_true (by omega)) ?_ | refine N.forkNo (decide_eq_false (by omega)) ?_ | fail_if_success skip)
          refine N.go ?_
          refine N.bndT q.f q.i 0 ⟨rfl, by omega⟩ ⟨rfl, by omega⟩ ?_
          repeat' (refine N.go ?_; first | with_reducible refine N.obl (by decide) ?_ | with_reducible refine N.obl (flat_wi _ _ _) ?_ | with_reducible refine N.obl (flat_lim _ _) ?_ | with_reducible refine N.eq ?_ | with_reducible refine N.obl rfl ?_ | with_reducible refine N.obl ⟨by kernel_rfl, by kernel_rfl⟩ ?_ | with_reducible refine N.alt ?_ | with_reducible refine N.forkT ?_ | with_reducible refine N.forkF ?_ | refine N.call (cRN hn hcs _) ?_ | refine N.forkYes (by rw [eq_false_of_ne_true hr2]; rfl) ?_ | fail_if_success skip)
          refine N.go ?_
          exact N.mk ⟨rfl, _, rfl⟩
  · have hdoc := hq.en (by omega)
    have hlen : ((uN (rowO q.oe) : Nat) : Int) = ((q.L.length : Nat) : Int) := by rw [rowO_n, hq.ol.n]
    by_cases h5 : q.L.length = 5
    · obtain ⟨x, y, a, b, d, hL⟩ : ∃ x y a b d, q.L = [x, y, a, b, d] := by
        match hl : q.L, h5 with
        | [x, y, a, b, d], _ => exact ⟨x, y, a, b, d, rfl⟩
      rw [hL] at hdoc
      have hfit := Txt.docL_fits _ [] _ (fun n hn => by cases hn) hdoc
      have hx : Fits x := hfit x (by simp)
      have hy : Fits y := hfit y (by simp)
      have ha : Fits a := hfit a (by simp)
      have hb : Fits b := hfit b (by simp)
      have hdd : Fits d := hfit d (by simp)
      have hV : docV s = docW s (some [x, y, a, b, d]) := by
        unfold docV
        rw [hdoc]
      rw [hV]
      obtain ⟨r, hr⟩ : ∃ r, q.oe = some r := by
        cases hoe : q.oe with
        | none => have := hq.ol.n; rw [hoe, hL] at this; cases this
        | some r => exact ⟨r, rfl⟩
      have hol := hq.ol
      rw [hr, hL] at hol
      have hrn : r.n = 5 := hol.n
      have hrx : r.xs = [.int .i64 x, .int .i64 y, .int .i64 a, .int .i64 b, .int .i64 d] := hol.xs
      by_cases hm : mayP x y a b d
      · by_cases ht : textB x y a b d = s
        · have hW2 : docW s (some [x, y, a, b, d]) = .tuple #[.agg #[.int .i64 x, .int .i64 y, .int .i64 a, .int .i64 b, .int .i64 d], .bool true] := if_pos ⟨hm, ht⟩
          rw [hW2]
          repeat' (refine N.go ?_; first | with_reducible refine N.obl (by decide) ?_ | with_reducible refine N.obl (flat_wi _ _ _) ?_ | with_reducible refine N.obl (flat_lim _ _) ?_ | with_reducible refine N.eq ?_ | with_reducible refine N.obl rfl ?_ | with_reducible refine N.obl ⟨by kernel_rfl, by kernel_rfl⟩ ?_ | with_reducible refine N.alt ?_ | with_reducible refine N.forkT ?_ | with_reducible refine N.forkF ?_ | refine N.lenS Tryz.underlying9 ?_ | refine N.op (ok_lenU rfl rfl ⟨_, rfl, _, Tryz.underlying39⟩) ?_ | refine N.op (ok_idxR (sz := 1) (g := r.o + 0) tysOK rfl rfl (fun ρ => by rw [uV_den, hr]; rfl) ⟨rfl, rfl⟩ (by exact rfl) (by decide) (by show (0 : Int) < ((r.n : Nat) : Int); omega) (by rfl)) ?_ | refine N.op (ok_idxR (sz := 1) (g := r.o + 1) tysOK rfl rfl (fun ρ => by rw [uV_den, hr]; rfl) ⟨rfl, rfl⟩ (by exact rfl) (by decide) (by show (1 : Int) < ((r.n : Nat) : Int); omega) (by rfl)) ?_ | refine N.op (ok_idxR (sz := 1) (g := r.o + 2) tysOK rfl rfl (fun ρ => by rw [uV_den, hr]; rfl) ⟨rfl, rfl⟩ (by exact rfl) (by decide) (by show (2 : Int) < ((r.n : Nat) : Int); omega) (by rfl)) ?_ | refine N.op (ok_idxR (sz := 1) (g := r.o + 3) tysOK rfl rfl (fun ρ => by rw [uV_den, hr]; rfl) ⟨rfl, rfl⟩ (by exact rfl) (by decide) (by show (3 : Int) < ((r.n : Nat) : Int); omega) (by rfl)) ?_ | refine N.op (ok_idxR (sz := 1) (g := r.o + 4) tysOK rfl rfl (fun ρ => by rw [uV_den, hr]; rfl) ⟨rfl, rfl⟩ (by exact rfl) (by decide) (by show (4 : Int) < ((r.n : Nat) : Int); omega) (by rfl)) ?_ | refine N.op (ok_loadV (i := 0) r (v := .int .i64 x) 0 tysOK rfl rfl rfl (by rfl) (by rw [hr]; exact rowL_in r []) (by exact rfl) rfl (by rw [hrx]; rfl)) ?_ | refine N.op (ok_loadV (i := 0) r (v := .int .i64 y) 1 tysOK rfl rfl rfl (by rfl) (by rw [hr]; exact rowL_in r []) (by exact rfl) rfl (by rw [hrx]; rfl)) ?_ | refine N.op (ok_loadV (i := 0) r (v := .int .i64 a) 2 tysOK rfl rfl rfl (by rfl) (by rw [hr]; exact rowL_in r []) (by exact rfl) rfl (by rw [hrx]; rfl)) ?_ | refine N.op (ok_loadV (i := 0) r (v := .int .i64 b) 3 tysOK rfl rfl rfl (by rfl) (by rw [hr]; exact rowL_in r []) (by exact rfl) rfl (by rw [hrx]; rfl)) ?_ | refine N.op (ok_loadV (i := 0) r (v := .int .i64 d) 4 tysOK rfl rfl rfl (by rfl) (by rw [hr]; exact rowL_in r []) (by exact rfl) rfl (by rw [hrx]; rfl)) ?_ | refine N.call (cMayE _ _ _ _ _ _) ?_ | refine N.call (call_rvP 0 W rfl (by rfl) rfl rfl (Tryz.call8) fun w hk => rtext_x x y a b d hx hy ha hb hdd w (hW.kept hk)) ?_ | refine N.bin _ (str_neq _ _ _ _) ?_ | refine N.forkNo (by rw [hlen, h5]; rfl) ?_ | refine N.forkNo (by rw [decide_eq_true hm]; rfl) ?_ | refine N.forkYes (by rw [decide_eq_false hm]; rfl) ?_ | refine N.forkNo (by rw [decide_eq_true ht]; rfl) ?_ | refine N.forkYes (by rw [decide_eq_false ht]; rfl) ?_ | refine N.forkYes (decide_eq_true (by omega)) ?_ | refine N.forkNo (decide_eq_false (by omega)) ?_ | fail_if_success skip)
          refine N.go ?_
          exact N.mk ⟨rfl, _, rfl⟩
        · have hW2 : docW s (some [x, y, a, b, d]) = .tuple #[.agg #[.int .i64 0, .int .i64 0, .int .i64 0, .int .i64 0, .int .i64 0], .bool false] := if_neg (fun h => ht h.2)
          rw [hW2]
          repeat' (refine N.go ?_; first | with_reducible refine N.obl (by decide) ?_ | with_reducible refine N.obl (flat_wi _ _ _) ?_ | with_reducible refine N.obl (flat_lim _ _) ?_ | with_reducible refine N.eq ?_ | with_reducible refine N.obl rfl ?_ | with_reducible refine N.obl ⟨by kernel_rfl, by kernel_rfl⟩ ?_ | with_reducible refine N.alt ?_ | with_reducible refine N.forkT ?_ | with_reducible refine N.forkF ?_ | refine N.lenS Tryz.underlying9 ?_ | refine N.op (ok_lenU rfl rfl ⟨_, rfl, _, Tryz.underlying39⟩) ?_ | refine N.op (ok_idxR (sz := 1) (g := r.o + 0) tysOK rfl rfl (fun ρ => by rw [uV_den, hr]; rfl) ⟨rfl, rfl⟩ (by exact rfl) (by decide) (by show (0 : Int) < ((r.n : Nat) : Int); omega) (by rfl)) ?_ | refine N.op (ok_idxR (sz := 1) (g := r.o + 1) tysOK rfl rfl (fun ρ => by rw [uV_den, hr]; rfl) ⟨rfl, rfl⟩ (by exact rfl) (by decide) (by show (1 : Int) < ((r.n : Nat) : Int); omega) (by rfl)) ?_ | refine N.op (ok_idxR (sz := 1) (g := r.o + 2) tysOK rfl rfl (fun ρ => by rw [uV_den, hr]; rfl) ⟨rfl, rfl⟩ (by exact rfl) (by decide) (by show (2 : Int) < ((r.n : Nat) : Int); omega) (by rfl)) ?_ | refine N.op (ok_idxR (sz := 1) (g := r.o + 3) tysOK rfl rfl (fun ρ => by rw [uV_den, hr]; rfl) ⟨rfl, rfl⟩ (by exact rfl) (by decide) (by show (3 : Int) < ((r.n : Nat) : Int); omega) (by rfl)) ?_ | refine N.op (ok_idxR (sz := 1) (g := r.o + 4) tysOK rfl rfl (fun ρ => by rw [uV_den, hr]; rfl) ⟨rfl, rfl⟩ (by exact rfl) (by decide) (by show (4 : Int) < ((r.n : Nat) : Int); omega) (by rfl)) ?_ | refine N.op (ok_loadV (i := 0) r (v := .int .i64 x) 0 tysOK rfl rfl rfl (by rfl) (by rw [hr]; exact rowL_in r []) (by exact rfl) rfl (by rw [hrx]; rfl)) ?_ | refine N.op (ok_loadV (i := 0) r (v := .int .i64 y) 1 tysOK rfl rfl rfl (by rfl) (by rw [hr]; exact rowL_in r []) (by exact rfl) rfl (by rw [hrx]; rfl)) ?_ | refine N.op (ok_loadV (i := 0) r (v := .int .i64 a) 2 tysOK rfl rfl rfl (by rfl) (by rw [hr]; exact rowL_in r []) (by exact rfl) rfl (by rw [hrx]; rfl)) ?_ | refine N.op (ok_loadV (i := 0) r (v := .int .i64 b) 3 tysOK rfl rfl rfl (by rfl) (by rw [hr]; exact rowL_in r []) (by exact rfl) rfl (by rw [hrx]; rfl)) ?_ | refine N.op (ok_loadV (i := 0) r (v := .int .i64 d) 4 tysOK rfl rfl rfl (by rfl) (by rw [hr]; exact rowL_in r []) (by exact rfl) rfl (by rw [hrx]; rfl)) ?_ | refine N.call (cMayE _ _ _ _ _ _) ?_ | refine N.call (call_rvP 0 W rfl (by rfl) rfl rfl (Tryz.call8) fun w hk => rtext_x x y a b d hx hy ha hb hdd w (hW.kept hk)) ?_ | refine N.bin _ (str_neq _ _ _ _) ?_ | refine N.forkNo (by rw [hlen, h5]; rfl) ?_ | refine N.forkNo (by rw [decide_eq_true hm]; rfl) ?_ | refine N.forkYes (by rw [decide_eq_false hm]; rfl) ?_ | refine N.forkNo (by rw [decide_eq_true ht]; rfl) ?_ | refine N.forkYes (by rw [decide_eq_false ht]; rfl) ?_ | refine N.forkYes (decide_eq_true (by omega)) ?_ | refine N.forkNo (decide_eq_false (by omega)) ?_ | fail_if_success skip)
          refine N.go ?_
          exact N.mk ⟨rfl, _, rfl⟩
      · have hW2 : docW s (some [x, y, a, b, d]) = .tuple #[.agg #[.int .i64 0, .int .i64 0, .int .i64 0, .int .i64 0, .int .i64 0], .bool false] := if_neg (fun h => hm h.1)
        rw [hW2]
        repeat' (refine N.go ?_; first | with_reducible refine N.obl (by decide) ?_ | with_reducible refine N.obl (flat_wi _ _ _) ?_ | with_reducible refine N.obl (flat_lim _ _) ?_ | with_reducible refine N.eq ?_ | with_reducible refine N.obl rfl ?_ | with_reducible refine N.obl ⟨by kernel_rfl, by kernel_rfl⟩ ?_ | with_reducible refine N.alt ?_ | with_reducible refine N.forkT ?_ | with_reducible refine N.forkF ?_ | refine N.lenS Tryz.underlying9 ?_ | refine N.op (ok_lenU rfl rfl ⟨_, rfl, _, Tryz.underlying39⟩) ?_ | refine N.op (ok_idxR (sz := 1) (g := r.o + 0) tysOK rfl rfl (fun ρ => by rw [uV_den, hr]; rfl) ⟨rfl, rfl⟩ (by exact rfl) (by decide) (by show (0 : Int) < ((r.n : Nat) : Int); omega) (by rfl)) ?_ | refine N.op (ok_idxR (sz := 1) (g := r.o + 1) tysOK rfl rfl (fun ρ => by rw [uV_den, hr]; rfl) ⟨rfl, rfl⟩ (by exact rfl) (by decide) (by show (1 : Int) < ((r.n : Nat) : Int); omega) (by rfl)) ?_ | refine N.op (ok_idxR (sz := 1) (g := r.o + 2) tysOK rfl rfl (fun ρ => by rw [uV_den, hr]; rfl) ⟨rfl, rfl⟩ (by exact rfl) (by decide) (by show (2 : Int) < ((r.n : Nat) : Int); omega) (by rfl)) ?_ | refine N.op (ok_idxR (sz := 1) (g := r.o + 3) tysOK rfl rfl (fun ρ => by rw [uV_den, hr]; rfl) ⟨rfl, rfl⟩ (by exact rfl) (by decide) (by show (3 : Int) < ((r.n : Nat) : Int); omega) (by rfl)) ?_ | refine N.op (ok_idxR (sz := 1) (g := r.o + 4) tysOK rfl rfl (fun ρ => by rw [uV_den, hr]; rfl) ⟨rfl, rfl⟩ (by exact rfl) (by decide) (by show (4 : Int) < ((r.n : Nat) : Int); omega) (by rfl)) ?_ | refine N.op (ok_loadV (i := 0) r (v := .int .i64 x) 0 tysOK rfl rfl rfl (by rfl) (by rw [hr]; exact rowL_in r []) (by exact rfl) rfl (by rw [hrx]; rfl)) ?_ | refine N.op (ok_loadV (i := 0) r (v := .int .i64 y) 1 tysOK rfl rfl rfl (by rfl) (by rw [hr]; exact rowL_in r []) (by exact rfl) rfl (by rw [hrx]; rfl)) ?_ | refine N.op (ok_loadV (i := 0) r (v := .int .i64 a) 2 tysOK rfl rfl rfl (by rfl) (by rw [hr]; exact rowL_in r []) (by exact rfl) rfl (by rw [hrx]; rfl)) ?_ | refine N.op (ok_loadV (i := 0) r (v := .int .i64 b) 3 tysOK rfl rfl rfl (by rfl) (by rw [hr]; exact rowL_in r []) (by exact rfl) rfl (by rw [hrx]; rfl)) ?_ | refine N.op (ok_loadV (i := 0) r (v := .int .i64 d) 4 tysOK rfl rfl rfl (by rfl) (by rw [hr]; exact rowL_in r []) (by exact rfl) rfl (by rw [hrx]; rfl)) ?_ | refine N.call (cMayE _ _ _ _ _ _) ?_ | refine N.call (call_rvP 0 W rfl (by rfl) rfl rfl (Tryz.call8) fun w hk => rtext_x x y a b d hx hy ha hb hdd w (hW.kept hk)) ?_ | refine N.bin _ (str_neq _ _ _ _) ?_ | refine N.forkNo (by rw [hlen, h5]; rfl) ?_ | refine N.forkNo (by rw [decide_eq_true hm]; rfl) ?_ | refine N.forkYes (by rw [decide_eq_false hm]; rfl) ?_ | refine N.forkNo (by rw [decide_eq_true ht]; rfl) ?_ | refine N.forkYes (by rw [decide_eq_false ht]; rfl) ?_ | refine N.forkYes (decide_eq_true (by omega)) ?_ | refine N.forkNo (decide_eq_false (by omega)) ?_ | fail_if_success skip)
        refine N.go ?_
        exact N.mk ⟨rfl, _, rfl⟩
    · have hV : docV s = docW s none := by
        unfold docV
        rw [hdoc]
        unfold docW
        split
        · rename_i e
          have e := Option.some.inj e
          rw [e] at h5; exact absurd rfl h5
        · rfl
      rw [hV]
      repeat' (refine N.go ?_; first | with_reducible refine N.obl (by decide) ?_ | with_reducible refine N.obl (flat_wi _ _ _) ?_ | with_reducible refine N.obl (flat_lim _ _) ?_ | with_reducible refine N.eq ?_ | with_reducible refine N.obl rfl ?_ | with_reducible refine N.obl ⟨by kernel_rfl, by kernel_rfl⟩ ?_ | with_reducible refine N.alt ?_ | with_reducible refine N.forkT ?_ | with_reducible refine N.forkF ?_ | refine N.lenS Tryz.underlying9 ?_ | refine N.op (ok_lenU rfl rfl ⟨_, rfl, _, Tryz.underlying39⟩) ?_ | refine N.forkYes (by rw [hlen, bne_iff_ne]; intro e; exact h5 (by omega)) ?_ | refine N.forkYes (decide_eq_true (by omega)) ?_ | refine N.forkNo (decide_eq_false (by omega)) ?_ | fail_if_success skip)
      refine N.go ?_
      exact N.mk ⟨rfl, _, rfl⟩
end Go.Proofs.YtdnkeeedcnjofaaGreatDoor
