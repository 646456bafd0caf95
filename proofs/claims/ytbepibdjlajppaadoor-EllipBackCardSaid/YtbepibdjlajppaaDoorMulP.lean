
/-
  Long multiplication by digits, plain.
-/
import Derived.Test.YtbepibdjlajppaaDoorDig
set_option linter.unusedVariables false
namespace Go.Proofs.YtbepibdjlajppaaDoor

def mT (v u i : Nat) : Nat := v % Bs ^ i * u
def mX (v u i j : Nat) : Nat := mT v u i + Bs ^ i * dg v i * (u % Bs ^ j)
def mC (v u i j : Nat) : Nat := mX v u i j / Bs ^ (i + j) - mT v u i / Bs ^ (i + j)
def mA (v u i j k : Nat) : Nat := if k < i + j then dg (mX v u i j) k else dg (mT v u i) k

theorem mX_zero (v u i : Nat) : mX v u i 0 = mT v u i := by simp [mX, Nat.mod_one]
theorem mC_zero (v u i : Nat) : mC v u i 0 = 0 := by simp [mC, mX_zero]
theorem mA_zero (v u i k : Nat) : mA v u i 0 k = dg (mT v u i) k := by unfold mA; rw [mX_zero]; split <;> rfl
theorem mT_zero (v u : Nat) : mT v u 0 = 0 := by simp [mT, Nat.mod_one]
theorem mX_succ (v u i j : Nat) : mX v u i (j + 1) = mX v u i j + Bs ^ (i + j) * (dg v i * dg u j) := by
  unfold mX
  rw [mod_step, Nat.mul_add, ← Nat.add_assoc, Nat.pow_add]
  congr 1
  simp only [Nat.mul_assoc, Nat.mul_left_comm]
theorem mX_ge (v u i j : Nat) : mT v u i ≤ mX v u i j := Nat.le_add_right _ _
theorem mX_div (v u i j : Nat) : mX v u i j / Bs ^ (i + j) = mT v u i / Bs ^ (i + j) + mC v u i j := by
  unfold mC
  have := Nat.div_le_div_right (c := Bs ^ (i + j)) (mX_ge v u i j)
  omega
theorem mX_next (v u i j : Nat) : mX v u i (j + 1) / Bs ^ (i + j) = mT v u i / Bs ^ (i + j) + mC v u i j + dg v i * dg u j := by
  rw [mX_succ, Nat.add_mul_div_left _ _ (bsp_pos _), mX_div]
theorem mC_step (v u i j : Nat) : mC v u i (j + 1) = (dg v i * dg u j + dg (mT v u i) (i + j) + mC v u i j) / 18446744073709551616 := by
  have h := mX_next v u i j
  have hs := dg_step (mT v u i) (i + j)
  have h2 : mX v u i (j + 1) / Bs ^ (i + (j + 1)) = mX v u i (j + 1) / Bs ^ (i + j) / Bs := by
    rw [Nat.div_div_eq_div_mul, show i + (j + 1) = (i + j) + 1 from rfl, Nat.pow_succ]
  generalize hc : mC v u i j = c at *
  show mX v u i (j + 1) / Bs ^ (i + (j + 1)) - mT v u i / Bs ^ (i + (j + 1)) = _
  rw [h2, h, hs, show i + (j + 1) = (i + j) + 1 from rfl]
  rw [show mT v u i / Bs ^ (i + j + 1) * Bs + dg (mT v u i) (i + j) + c + dg v i * dg u j = Bs * (mT v u i / Bs ^ (i + j + 1)) + (dg v i * dg u j + dg (mT v u i) (i + j) + c) from by rw [Nat.mul_comm]; omega]
  rw [Nat.mul_add_div bs_pos, Nat.add_sub_cancel_left]
theorem mA_dig (v u i j : Nat) : dg (mX v u i (j + 1)) (i + j) = (dg v i * dg u j + dg (mT v u i) (i + j) + mC v u i j) % 18446744073709551616 := by
  have h := mX_next v u i j
  have hs := dg_step (mT v u i) (i + j)
  show mX v u i (j + 1) / Bs ^ (i + j) % Bs = _
  rw [h, hs]
  rw [show mT v u i / Bs ^ (i + j + 1) * Bs + dg (mT v u i) (i + j) + mC v u i j + dg v i * dg u j = Bs * (mT v u i / Bs ^ (i + j + 1)) + (dg v i * dg u j + dg (mT v u i) (i + j) + mC v u i j) from by rw [Nat.mul_comm]; omega]
  rw [Nat.mul_add_mod]
theorem total_lt {a b t c : Nat} (ha : a < 18446744073709551616) (hb : b < 18446744073709551616) (ht : t < 18446744073709551616) (hc : c < 18446744073709551616) : (a * b + t + c) / 18446744073709551616 < 18446744073709551616 := by
  have : a * b ≤ 18446744073709551615 * 18446744073709551615 := Nat.mul_le_mul (by omega) (by omega)
  omega
theorem mC_lt (v u i : Nat) : ∀ j, mC v u i j < 18446744073709551616
  | 0 => by rw [mC_zero]; decide
  | j + 1 => by rw [mC_step]; exact total_lt (dg_lt _ _) (dg_lt _ _) (dg_lt _ _) (mC_lt v u i j)
theorem dg_add (x y p k : Nat) (h : k < p) : dg (x + Bs ^ p * y) k = dg x k := by
  rw [← dg_mod (x + Bs ^ p * y) p k h, Nat.add_mul_mod_self_left, dg_mod x p k h]
theorem mA_step (v u i j k : Nat) (h : k ≠ i + j) : mA v u i (j + 1) k = mA v u i j k := by
  unfold mA
  by_cases hk : k < i + j
  · rw [if_pos hk, if_pos (by omega), mX_succ, dg_add _ _ _ _ hk]
  · rw [if_neg hk, if_neg (by omega)]
theorem mA_at (v u i j : Nat) : mA v u i (j + 1) (i + j) = (dg v i * dg u j + dg (mT v u i) (i + j) + mC v u i j) % 18446744073709551616 := by
  unfold mA; rw [if_pos (by omega), mA_dig]
theorem mA_old (v u i j : Nat) : mA v u i j (i + j) = dg (mT v u i) (i + j) := by unfold mA; rw [if_neg (by omega)]
theorem mX_end (v u i n : Nat) (hu : u < Bs ^ n) : mX v u i n = mT v u (i + 1) := by
  unfold mX mT
  rw [Nat.mod_eq_of_lt hu, mod_step, Nat.add_mul]
theorem mT_lt (v u i n : Nat) (hu : u < Bs ^ n) : mT v u i < Bs ^ (i + n) := by
  unfold mT
  rw [Nat.pow_add]
  have h1 := Nat.mod_lt v (bsp_pos i)
  exact Nat.mul_lt_mul'' h1 hu
theorem mul_end (v u i n k : Nat) (hu : u < Bs ^ n) : dg (mT v u (i + 1)) k = if k < i + n then mA v u i n k else if k = i + n then mC v u i n else dg (mT v u i) k := by
  have hx := mX_end v u i n hu
  have h0 : mT v u i / Bs ^ (i + n) = 0 := Nat.div_eq_of_lt (mT_lt v u i n hu)
  by_cases h1 : k < i + n
  · rw [if_pos h1]; unfold mA; rw [if_pos h1, hx]
  · rw [if_neg h1]
    by_cases h2 : k = i + n
    · rw [if_pos h2]
      subst h2
      have h3 := mX_div v u i n
      rw [h0, Nat.zero_add, hx] at h3
      show mT v u (i + 1) / Bs ^ (i + n) % Bs = _
      rw [h3, Nat.mod_eq_of_lt (mC_lt v u i n)]
    · rw [if_neg h2]
      have h4 : i + n ≤ k := by omega
      have h5 : Bs ^ (i + n) ≤ Bs ^ k := Nat.pow_le_pow_right bs_pos h4
      have h6 : Bs ^ (i + 1 + n) ≤ Bs ^ k := Nat.pow_le_pow_right bs_pos (by omega)
      rw [dg_big _ _ (Nat.lt_of_lt_of_le (mT_lt v u i n hu) h5), dg_big _ _ (Nat.lt_of_lt_of_le (mT_lt v u (i + 1) n hu) h6)]
theorem mA_high (v u i n k : Nat) (h : i + n ≤ k) : mA v u i n k = dg (mT v u i) k := by unfold mA; rw [if_neg (by omega)]
theorem mT_end (v u m : Nat) (hv : v < Bs ^ m) : mT v u m = v * u := by unfold mT; rw [Nat.mod_eq_of_lt hv]
end Go.Proofs.YtbepibdjlajppaaDoor
