
/-
  A digit of a quotient of two by one (to the base 2^32), as bits.Div64 reckons it.
-/
set_option linter.unusedVariables false
namespace Go.Proofs.YtbepibdjlajppaaDoor.Knuth

/-- The half base. -/
abbrev h : Nat := 4294967296

variable {y1 y0 u d q r : Nat}

/-- What holds while a guessed digit is brought down: it is not below the digit. -/
structure Guess (y1 y0 u d q r : Nat) : Prop where
  sum : q * y1 + r = u
  ge : (u * h + d) / (y1 * h + y0) ≤ q
  le : q ≤ h + 1

theorem digit_lt (hd : d < h) (hu : u < y1 * h + y0) : (u * h + d) / (y1 * h + y0) < h := by
  rw [Nat.div_lt_iff_lt_mul (by omega)]
  have : (u + 1) * h ≤ (y1 * h + y0) * h := Nat.mul_le_mul_right _ hu
  rw [Nat.add_mul] at this
  rw [Nat.mul_comm h]
  simp only [h] at *
  omega

theorem first (hy1 : 2147483648 ≤ y1) (hy1' : y1 < h) (hy0 : y0 < h) (hd : d < h) (hu : u < y1 * h + y0) : Guess y1 y0 u d (u / y1) (u % y1) := by
  have hp : 0 < y1 := by omega
  refine ⟨by rw [Nat.mul_comm]; exact Nat.div_add_mod u y1, ?_, ?_⟩
  · -- the digit is at most u / y1
    have e1 : (u * h + d) / (y1 * h + y0) ≤ (u * h + d) / (y1 * h) := Nat.div_le_div_left (by omega) (by simp only [h]; omega)
    have e2 : (u * h + d) / (y1 * h) = u / y1 := by
      rw [Nat.mul_comm y1, ← Nat.div_div_eq_div_mul, Nat.mul_comm u, Nat.mul_add_div (by decide), Nat.div_eq_of_lt hd, Nat.add_zero]
    omega
  · have : u / y1 < h + 2 := by
      rw [Nat.div_lt_iff_lt_mul hp, Nat.add_mul]
      simp only [h] at *
      omega
    omega

theorem too_great (hp : 0 < y1 * h + y0) (hs : q * y1 + r = u) (hg : h * r + d < q * y0) : (u * h + d) / (y1 * h + y0) < q := by
  rw [Nat.div_lt_iff_lt_mul hp]
  have e : q * (y1 * h + y0) = q * y1 * h + q * y0 := by rw [Nat.mul_add, Nat.mul_assoc]
  rw [e, ← hs, Nat.add_mul, Nat.mul_comm r h]
  omega
theorem fits (hp : 0 < y1 * h + y0) (hs : q * y1 + r = u) (hg : q * y0 ≤ h * r + d) : q ≤ (u * h + d) / (y1 * h + y0) := by
  rw [Nat.le_div_iff_mul_le hp]
  have e : q * (y1 * h + y0) = q * y1 * h + q * y0 := by rw [Nat.mul_add, Nat.mul_assoc]
  rw [e, ← hs, Nat.add_mul, Nat.mul_comm r h]
  omega

/-- One down. -/
theorem down (hd : d < h) (hu : u < y1 * h + y0) (g : Guess y1 y0 u d q r) (ht : h ≤ q ∨ h * r + d < q * y0) : 0 < q ∧ Guess y1 y0 u d (q - 1) (r + y1) := by
  have hp : 0 < y1 * h + y0 := by omega
  have hlt := digit_lt hd hu
  have hq : (u * h + d) / (y1 * h + y0) < q := by
    rcases ht with h1 | h1
    · exact Nat.lt_of_lt_of_le hlt h1
    · exact too_great hp g.sum h1
  have h0 : 0 < q := Nat.lt_of_le_of_lt (Nat.zero_le _) hq
  obtain ⟨k, rfl⟩ : ∃ k, q = k + 1 := ⟨q - 1, by omega⟩
  refine ⟨h0, ⟨?_, by simp only [Nat.add_sub_cancel]; omega, by have := g.le; simp only [Nat.add_sub_cancel]; omega⟩⟩
  have := g.sum
  rw [Nat.add_mul, Nat.one_mul] at this
  simp only [Nat.add_sub_cancel]
  omega
/-- It is the digit: where it fits. -/
theorem stop (hd : d < h) (hu : u < y1 * h + y0) (g : Guess y1 y0 u d q r) (hq : q < h) (ht : q * y0 ≤ h * r + d) : q = (u * h + d) / (y1 * h + y0) := by
  have := fits (by omega) g.sum ht
  have := g.ge
  omega
/-- It is the digit: where the rest is a whole base. -/
theorem stop' (hy0 : y0 < h) (hd : d < h) (hu : u < y1 * h + y0) (g : Guess y1 y0 u d q r) (hq : q ≤ h) (hr : h ≤ r) : q = (u * h + d) / (y1 * h + y0) := by
  have e1 : q * y0 ≤ h * y0 := Nat.mul_le_mul_right _ hq
  have e2 : h * h ≤ h * r := Nat.mul_le_mul_left _ hr
  have e3 : h * y0 ≤ h * h := Nat.mul_le_mul_left _ (Nat.le_of_lt hy0)
  have := fits (by omega) g.sum (show q * y0 ≤ h * r + d by omega)
  have := g.ge
  omega

/-- Two digits, one behind the other. -/
theorem two (u d1 d0 Y : Nat) (hY : 0 < Y) : (u * h * h + d1 * h + d0) / Y = (u * h + d1) / Y * h + ((u * h + d1) % Y * h + d0) / Y ∧ (u * h * h + d1 * h + d0) % Y = ((u * h + d1) % Y * h + d0) % Y := by
  have e0 := Nat.div_add_mod (u * h + d1) Y
  have e : u * h * h + d1 * h + d0 = Y * ((u * h + d1) / Y * h) + ((u * h + d1) % Y * h + d0) := by
    rw [← Nat.add_mul]
    conv => lhs; rw [← e0]
    rw [Nat.add_mul, Nat.mul_assoc, Nat.add_assoc]
  rw [e, Nat.mul_add_div hY, Nat.mul_add_mod]
  exact ⟨rfl, rfl⟩

/-- Shifted up by less than 64: the upper and the lower word. -/
theorem words (hi lo s : Nat) (hs : s < 64) : (hi * 18446744073709551616 + lo) * 2 ^ s = (hi * 2 ^ s + lo / 2 ^ (64 - s)) * 18446744073709551616 + lo * 2 ^ s % 18446744073709551616 := by
  have e : (18446744073709551616 : Nat) = 2 ^ (64 - s) * 2 ^ s := by rw [← Nat.pow_add, show 64 - s + s = 64 from by omega]
  have hp : 0 < 2 ^ s := Nat.pow_pos (by decide)
  have e1 : lo * 2 ^ s / 18446744073709551616 = lo / 2 ^ (64 - s) := by
    rw [e, Nat.mul_div_mul_right _ _ hp]
  have e2 := Nat.div_add_mod (lo * 2 ^ s) 18446744073709551616
  rw [e1] at e2
  rw [Nat.add_mul, Nat.add_mul, Nat.mul_right_comm hi]
  omega

/-- What is left, shifted back. -/
theorem back (n y s : Nat) : n * 2 ^ s / (y * 2 ^ s) = n / y ∧ n * 2 ^ s % (y * 2 ^ s) / 2 ^ s = n % y := by
  have hp : 0 < 2 ^ s := Nat.pow_pos (by decide)
  refine ⟨Nat.mul_div_mul_right _ _ hp, ?_⟩
  rw [Nat.mul_mod_mul_right, Nat.mul_div_cancel _ hp]
theorem join (u l d1 d0 : Nat) (el : l = d1 * 4294967296 + d0) : u * 18446744073709551616 + l = u * h * h + d1 * h + d0 := by
  subst el
  show u * 18446744073709551616 + (d1 * 4294967296 + d0) = u * 4294967296 * 4294967296 + d1 * 4294967296 + d0
  omega
end Go.Proofs.YtbepibdjlajppaaDoor.Knuth
