/-
  Numbers by words of 32 bits: plain laws.
-/
import Derived.KernelRfl
set_option linter.unusedVariables false
namespace Go.Proofs.Ytkjeebabcdnjkaa
/-- The words of 32 bits of a number. -/
def bw (i : Nat) : Nat := 4294967296 ^ i
theorem bw_succ (i : Nat) : bw (i + 1) = bw i * 4294967296 := Nat.pow_succ ..
theorem bw_pos (i : Nat) : 0 < bw i := Nat.pow_pos (by decide)
theorem bw_zero : bw 0 = 1 := rfl
theorem bw_one : bw 1 = 4294967296 := rfl
theorem bw_add (i j : Nat) : bw (i + j) = bw i * bw j := Nat.pow_add ..
theorem bw_mono {i j : Nat} (h : i ≤ j) : bw i ≤ bw j := Nat.pow_le_pow_right (by decide) h
def lm (v j : Nat) : Nat := v / bw j % 4294967296
theorem lm_lt (v j : Nat) : lm v j < 4294967296 := Nat.mod_lt _ (by decide)
theorem lm_big {v j : Nat} (h : v < bw j) : lm v j = 0 := by unfold lm; rw [Nat.div_eq_of_lt h]
/-- What lies above a word: one more word. -/
theorem up_word (v j : Nat) : v / bw j = v / bw (j + 1) * 4294967296 + lm v j := by
  unfold lm
  rw [bw_succ, ← Nat.div_div_eq_div_mul]
  have := Nat.div_add_mod (v / bw j) 4294967296
  omega
theorem low_word (v j : Nat) : v % bw (j + 1) = v % bw j + lm v j * bw j := by
  unfold lm
  rw [bw_succ, Nat.mod_mul, Nat.mul_comm (bw j)]
theorem lm_mod {v i j : Nat} (h : j < i) : lm (v % bw i) j = lm v j := by
  unfold lm
  obtain ⟨d, rfl⟩ : ∃ d, i = j + 1 + d := ⟨i - (j + 1), by omega⟩
  rw [bw_add, bw_succ, Nat.mul_assoc, Nat.mod_mul_right_div_self, Nat.mod_mul_right_mod]
theorem lm_add {v j : Nat} (u : Nat) {i : Nat} (h : j < i) : lm (v + u * bw i) j = lm v j := by
  rw [← lm_mod h (v := v + u * bw i), Nat.add_mul_mod_self_right, lm_mod h]
def nl : Nat → Nat
  | 0 => 0
  | v + 1 => nl ((v + 1) / 4294967296) + 1
decreasing_by exact Nat.div_lt_self (by omega) (by decide)
theorem nl_zero : nl 0 = 0 := by unfold nl; rfl
theorem nl_pos {v : Nat} (h : 0 < v) : nl v = nl (v / 4294967296) + 1 := by
  obtain ⟨u, rfl⟩ : ∃ u, v = u + 1 := ⟨v - 1, by omega⟩
  rw [nl]
theorem nl_le : ∀ {n v : Nat}, nl v ≤ n ↔ v < bw n
  | 0, v => by
    rw [bw_zero]
    rcases Nat.eq_zero_or_pos v with rfl | h
    · rw [nl_zero]; simp
    · rw [nl_pos h]; omega
  | n + 1, v => by
    rcases Nat.eq_zero_or_pos v with rfl | h
    · rw [nl_zero]; exact ⟨fun _ => bw_pos _, fun _ => Nat.zero_le _⟩
    · rw [nl_pos h, bw_succ]
      have ih := nl_le (n := n) (v := v / 4294967296)
      rw [Nat.div_lt_iff_lt_mul (by decide)] at ih
      rw [← ih]; omega
theorem nl_self (v : Nat) : v < bw (nl v) := nl_le.1 (Nat.le_refl _)
theorem nl_eq {v n : Nat} (h1 : v < bw (n + 1)) (h2 : bw n ≤ v) : nl v = n + 1 := by
  have := nl_le.2 h1
  have h3 : ¬ nl v ≤ n := fun h => by have := nl_le.1 h; omega
  omega
theorem nl_zero_iff {v : Nat} : nl v = 0 ↔ v = 0 := by
  constructor
  · intro h
    have := nl_le.1 (Nat.le_of_eq h)
    rw [bw_zero] at this; omega
  · rintro rfl; exact nl_zero
/-- The last word of a number that is not trimmed. -/
theorem trim_word {v l : Nat} (h : v < bw (l + 1)) : lm v l = 0 ↔ v < bw l := by
  constructor
  · intro h1
    have := up_word v l
    rw [Nat.div_eq_of_lt h, h1] at this
    rcases Nat.lt_or_ge v (bw l) with h2 | h2
    · exact h2
    · have := (Nat.le_div_iff_mul_le (bw_pos l)).2 (by rw [Nat.one_mul]; exact h2)
      omega
  · exact lm_big
theorem top_word {v : Nat} (h : 0 < v) : lm v (nl v - 1) ≠ 0 := by
  have h0 : nl v ≠ 0 := fun e => by have := nl_zero_iff.1 e; omega
  have h1 := nl_self v
  rw [show nl v = nl v - 1 + 1 from by omega] at h1
  intro e
  have := nl_le.2 ((trim_word h1).1 e)
  omega
/-- One word more of a number times a word. -/
theorem mul_word (a y i : Nat) (hy : y < 4294967296) :
    let S := a % bw i * y; let t := lm a i * y + lm S i
    (∀ j, j < i → lm (a % bw (i + 1) * y) j = lm S j) ∧ lm (a % bw (i + 1) * y) i = t % 4294967296 ∧ lm (a % bw (i + 1) * y) (i + 1) = t / 4294967296 ∧ t < 18446744073709551616 ∧ (∀ j, i + 1 < j → lm (a % bw (i + 1) * y) j = 0) := by
  intro S t
  have hS : S < bw (i + 1) := by
    rw [bw_succ]
    exact Nat.lt_of_le_of_lt (Nat.mul_le_mul_left _ (Nat.le_of_lt hy)) (Nat.mul_lt_mul_of_pos_right (Nat.mod_lt _ (bw_pos i)) (by decide))
  have hT : a % bw (i + 1) * y = S + lm a i * y * bw i := by
    rw [low_word, Nat.add_mul, Nat.mul_right_comm]
  have hx := lm_lt a i
  have hSi := lm_lt S i
  have hxy : lm a i * y ≤ 4294967295 * 4294967295 := Nat.mul_le_mul (by omega) (by omega)
  have hd : (a % bw (i + 1) * y) / bw i = t := by
    rw [hT, Nat.add_mul_div_right _ _ (bw_pos i), up_word S i, Nat.div_eq_of_lt hS]
    omega
  refine ⟨fun j hj => ?_, ?_, ?_, by omega, fun j hj => ?_⟩
  · rw [hT]; exact lm_add _ hj
  · show (a % bw (i + 1) * y) / bw i % 4294967296 = _; rw [hd]
  · show (a % bw (i + 1) * y) / bw (i + 1) % 4294967296 = _
    rw [bw_succ i, ← Nat.div_div_eq_div_mul, ← bw_succ, hd]
    exact Nat.mod_eq_of_lt (by omega)
  · apply lm_big
    have h1 : a % bw (i + 1) * y < bw (i + 1) * 4294967296 :=
      Nat.lt_of_le_of_lt (Nat.mul_le_mul_left _ (Nat.le_of_lt hy)) (Nat.mul_lt_mul_of_pos_right (Nat.mod_lt _ (bw_pos _)) (by decide))
    rw [← bw_succ] at h1
    exact Nat.lt_of_lt_of_le h1 (bw_mono (by omega))
/-- One word of a quotient by a word. -/
theorem div_word (v b i : Nat) (hb : 0 < b) (hb1 : b < 4294967296) :
    let r := v / bw (i + 1) % b; let t := r * 4294967296 + lm v i
    lm (v / b) i = t / b ∧ v / bw i % b = t % b ∧ t < b * 4294967296 ∧ t / b < 4294967296 := by
  intro r t
  have hr : r < b := Nat.mod_lt _ hb
  have hx := lm_lt v i
  have ht : t < b * 4294967296 := by
    have : (r + 1) * 4294967296 ≤ b * 4294967296 := Nat.mul_le_mul_right _ hr
    omega
  have hq : t / b < 4294967296 := (Nat.div_lt_iff_lt_mul hb).2 (by rw [Nat.mul_comm]; exact ht)
  have he : v / bw i = v / bw (i + 1) / b * 4294967296 * b + t := by
    have h1 := Nat.div_add_mod (v / bw (i + 1)) b
    rw [up_word v i]
    have h2 : v / bw (i + 1) = v / bw (i + 1) / b * b + r := by rw [Nat.mul_comm]; exact h1.symm
    have h3 : v / bw (i + 1) / b * 4294967296 * b = v / bw (i + 1) / b * b * 4294967296 := Nat.mul_right_comm _ _ _
    rw [h3]
    generalize v / bw (i + 1) / b * b = q at h2 ⊢
    omega
  refine ⟨?_, ?_, ht, hq⟩
  · unfold lm
    rw [Nat.div_div_eq_div_mul, Nat.mul_comm, ← Nat.div_div_eq_div_mul, he, Nat.add_comm, Nat.add_mul_div_right _ _ hb, Nat.add_mul_mod_self_right]
    exact Nat.mod_eq_of_lt hq
  · rw [he, Nat.add_comm, Nat.add_mul_mod_self_right]
/-- One word of a sum. -/
theorem add_word (a b i : Nat) :
    let c := (a % bw i + b % bw i) / bw i; let t := c + lm a i + lm b i
    lm (a + b) i = t % 4294967296 ∧ (a % bw (i + 1) + b % bw (i + 1)) / bw (i + 1) = t / 4294967296 ∧ c ≤ 1 := by
  intro c t
  have hp := bw_pos i
  have hc : c ≤ 1 := by
    have h1 := Nat.mod_lt a hp
    have h2 := Nat.mod_lt b hp
    have : c < 2 := (Nat.div_lt_iff_lt_mul hp).2 (by omega)
    omega
  have he : (a + b) / bw i = c + a / bw i + b / bw i := by
    have h1 := Nat.div_add_mod a (bw i)
    have h2 := Nat.div_add_mod b (bw i)
    have h3 : a + b = (a % bw i + b % bw i) + (a / bw i + b / bw i) * bw i := by
      rw [Nat.add_mul, Nat.mul_comm (a / bw i), Nat.mul_comm (b / bw i)]; omega
    rw [h3, Nat.add_mul_div_right _ _ hp]; omega
  refine ⟨?_, ?_, hc⟩
  · show (a + b) / bw i % 4294967296 = (c + a / bw i % 4294967296 + b / bw i % 4294967296) % 4294967296
    rw [he]; omega
  · have h1 : (a % bw (i + 1) + b % bw (i + 1)) = (a % bw i + b % bw i) + (lm a i + lm b i) * bw i := by
      rw [low_word, low_word, Nat.add_mul]; omega
    rw [h1, bw_succ, ← Nat.div_div_eq_div_mul, Nat.add_mul_div_right _ _ hp]
    congr 1
    show c + _ = _
    omega
end Go.Proofs.Ytkjeebabcdnjkaa
