
/-
  Numbers by their digits to the base 2^64: what addition, comparison, shifts, division by one digit do to the digits.
-/
import Derived.Test.YtbepibdjlajppaaDoorBase
set_option linter.unusedVariables false
namespace Go.Proofs.YtbepibdjlajppaaDoor

/-- The base. -/
abbrev Bs : Nat := 18446744073709551616
theorem bs_pos : 0 < Bs := by decide
theorem bsp_pos (n : Nat) : 0 < Bs ^ n := Nat.pow_pos bs_pos

/-- The j-th digit. -/
def dg (v j : Nat) : Nat := v / Bs ^ j % Bs
theorem dg_lt (v j : Nat) : dg v j < 18446744073709551616 := Nat.mod_lt _ bs_pos
theorem dg_zero (j : Nat) : dg 0 j = 0 := by simp [dg]
theorem dg_step (v j : Nat) : v / Bs ^ j = v / Bs ^ (j + 1) * Bs + dg v j := by
  unfold dg
  rw [Nat.pow_succ, ← Nat.div_div_eq_div_mul]
  have := Nat.div_add_mod (v / Bs ^ j) Bs
  rw [Nat.mul_comm]; exact this.symm
theorem mod_step (v j : Nat) : v % Bs ^ (j + 1) = v % Bs ^ j + Bs ^ j * dg v j := by
  unfold dg
  rw [Nat.pow_succ, Nat.mod_mul]
theorem dg_big (v j : Nat) (h : v < Bs ^ j) : dg v j = 0 := by
  unfold dg; rw [Nat.div_eq_of_lt h]; rfl
theorem dg_mod (v n j : Nat) (h : j < n) : dg (v % Bs ^ n) j = dg v j := by
  unfold dg
  obtain ⟨k, rfl⟩ : ∃ k, n = j + (k + 1) := ⟨n - j - 1, by omega⟩
  rw [Nat.pow_add, Nat.mod_mul_right_div_self, Nat.pow_succ, Nat.mul_comm (Bs ^ k), Nat.mod_mul_right_mod]
theorem eq_of_dg (n a b : Nat) (ha : a < Bs ^ n) (hb : b < Bs ^ n) (h : ∀ j, j < n → dg a j = dg b j) : a = b := by
  have key : ∀ m, m ≤ n → a % Bs ^ m = b % Bs ^ m := by
    intro m
    induction m with
    | zero => intro _; simp [Nat.mod_one]
    | succ m ih => intro hm; rw [mod_step, mod_step, ih (by omega), h m (by omega)]
  have := key n (Nat.le_refl _)
  rwa [Nat.mod_eq_of_lt ha, Nat.mod_eq_of_lt hb] at this

/-- The carry into the i-th digit. -/
def cry (a b i : Nat) : Nat := (a % Bs ^ i + b % Bs ^ i) / Bs ^ i
theorem cry_zero (a b : Nat) : cry a b 0 = 0 := by simp [cry, Nat.mod_one]
theorem cry_le (a b i : Nat) : cry a b i ≤ 1 := by
  unfold cry
  have h1 := Nat.mod_lt a (bsp_pos i)
  have h2 := Nat.mod_lt b (bsp_pos i)
  have : (a % Bs ^ i + b % Bs ^ i) / Bs ^ i < 2 := (Nat.div_lt_iff_lt_mul (bsp_pos i)).2 (by omega)
  omega
theorem cry_step (a b i : Nat) : dg a i + dg b i + cry a b i = dg (a + b) i + Bs * cry a b (i + 1) := by
  have e1 : ∀ m, a + b = (a / Bs ^ m + b / Bs ^ m + cry a b m) * Bs ^ m + (a % Bs ^ m + b % Bs ^ m) % Bs ^ m := by
    intro m
    have ha := Nat.div_add_mod a (Bs ^ m)
    have hb := Nat.div_add_mod b (Bs ^ m)
    have hc := Nat.div_add_mod (a % Bs ^ m + b % Bs ^ m) (Bs ^ m)
    unfold cry
    generalize Bs ^ m = q at *
    rw [Nat.add_mul, Nat.add_mul, Nat.mul_comm (a / q), Nat.mul_comm (b / q), Nat.mul_comm _ q]
    omega
  have e2 : ∀ m, (a + b) / Bs ^ m = a / Bs ^ m + b / Bs ^ m + cry a b m := by
    intro m
    have h := e1 m
    have hr := Nat.mod_lt (a % Bs ^ m + b % Bs ^ m) (bsp_pos m)
    rw [h, Nat.mul_comm, Nat.mul_add_div (bsp_pos m), Nat.div_eq_of_lt hr, Nat.add_zero]
  have s0 := dg_step a i
  have s1 := dg_step b i
  have s2 := dg_step (a + b) i
  have q0 := e2 i
  have q1 := e2 (i + 1)
  rw [q0, q1] at s2
  generalize a / Bs ^ (i + 1) = x at *
  generalize b / Bs ^ (i + 1) = y at *
  generalize cry a b (i + 1) = z at *
  generalize cry a b i = u at *
  simp only [Bs] at *
  omega
theorem cry_dig (a b i : Nat) : (dg a i + dg b i + cry a b i) % 18446744073709551616 = dg (a + b) i := by
  have := cry_step a b i
  have h := dg_lt (a + b) i
  simp only [Bs] at this
  omega
theorem cry_next (a b i : Nat) : (dg a i + dg b i + cry a b i) / 18446744073709551616 = cry a b (i + 1) := by
  have := cry_step a b i
  have h := dg_lt (a + b) i
  simp only [Bs] at this
  omega

theorem div_gen (x d b B : Nat) (hd : d < B) (hb : 0 < b) : (x % b * B + d) / b = (x * B + d) / b % B ∧ (x % b * B + d) % b = (x * B + d) % b := by
  have hq := Nat.div_add_mod x b
  have hr := Nat.mod_lt x hb
  have e : x * B + d = b * (x / b * B) + (x % b * B + d) := by
    have h : x * B = b * (x / b) * B + x % b * B := by rw [← Nat.add_mul, hq]
    rw [h, Nat.mul_assoc, Nat.add_assoc]
  have hlt : (x % b * B + d) / b < B := by
    rw [Nat.div_lt_iff_lt_mul hb]
    have : (x % b + 1) * B ≤ b * B := Nat.mul_le_mul_right _ hr
    rw [Nat.add_mul] at this
    rw [Nat.mul_comm B b]
    omega
  constructor
  · rw [e, Nat.mul_add_div hb, Nat.mul_comm (x / b) B, Nat.mul_add_mod, Nat.mod_eq_of_lt hlt]
  · rw [e, Nat.mul_add_mod]

/-- The digits of what remains of a division by one digit, from the top. -/
theorem div_step (a b i : Nat) (hb : 0 < b) : (a / Bs ^ (i + 1) % b * 18446744073709551616 + dg a i) / b = dg (a / b) i ∧ (a / Bs ^ (i + 1) % b * 18446744073709551616 + dg a i) % b = a / Bs ^ i % b := by
  have h := div_gen (a / Bs ^ (i + 1)) (dg a i) b Bs (dg_lt a i) hb
  rw [← dg_step] at h
  refine ⟨?_, h.2⟩
  have h1 := h.1
  unfold dg at *
  rw [h1, Nat.div_div_eq_div_mul, Nat.div_div_eq_div_mul, Nat.mul_comm]

/-- The shift by less than a digit, down: what the i-th digit of the result is. -/
theorem shr_step (a i k : Nat) (hk : k < 64) : dg (a / 2 ^ k) i = dg a i / 2 ^ k + dg a (i + 1) * 2 ^ (64 - k) % 18446744073709551616 := by
  have e : Bs = 2 ^ k * 2 ^ (64 - k) := by rw [← Nat.pow_add, show k + (64 - k) = 64 from by omega]
  have s := dg_step a i
  have s1 := dg_step a (i + 1)
  have hd := dg_lt a i
  unfold dg at s1 s hd ⊢
  rw [Nat.div_div_eq_div_mul, Nat.mul_comm (2 ^ k), ← Nat.div_div_eq_div_mul]
  generalize a / Bs ^ i % Bs = d0 at *
  generalize a / Bs ^ (i + 1) % Bs = d1 at *
  generalize a / Bs ^ (i + 1) = x at *
  generalize a / Bs ^ (i + 1 + 1) = y at *
  rw [s, s1]
  have hp : 0 < 2 ^ k := Nat.pow_pos (by decide)
  have hp2 : 0 < 2 ^ (64 - k) := Nat.pow_pos (by decide)
  generalize 2 ^ k = p at *
  generalize 2 ^ (64 - k) = q at *
  show _ = d0 / p + d1 * q % Bs
  have hd' : d0 < Bs := hd
  clear s s1 hd hk
  generalize Bs = B at *
  subst e
  rw [show (y * (p * q) + d1) * (p * q) + d0 = p * ((y * (p * q) + d1) * q) + d0 from by rw [Nat.mul_left_comm], Nat.mul_add_div hp]
  have hq : d0 / p < q := by rw [Nat.div_lt_iff_lt_mul hp, Nat.mul_comm]; exact hd'
  have h2 : (y * (p * q) + d1) * q + d0 / p = (p * q) * (y * q) + (d1 * q + d0 / p) := by
    rw [Nat.add_mul, Nat.mul_comm y (p * q), Nat.mul_assoc (p * q), Nat.add_assoc]
  rw [h2, Nat.mul_add_mod]
  have h3 := Nat.div_add_mod (d1 * q) (p * q)
  have h4 : d1 * q % (p * q) = d1 % p * q := by rw [Nat.mul_mod_mul_right]
  have h5 : d1 % p * q + d0 / p < p * q := by
    have := Nat.mod_lt d1 hp
    have : (d1 % p + 1) * q ≤ p * q := Nat.mul_le_mul_right _ this
    rw [Nat.add_mul] at this
    omega
  rw [show d1 * q + d0 / p = p * q * (d1 * q / (p * q)) + (d1 * q % (p * q) + d0 / p) from by omega, Nat.mul_add_mod, h4, Nat.mod_eq_of_lt h5]
  omega
end Go.Proofs.YtbepibdjlajppaaDoor
