
/-
  Digits behind a shift, and 'or' of parts that do not meet.
-/
import Derived.Test.YtbepibdjlajppaaDoorDig
import Derived.Lib.EndianBits
set_option linter.unusedVariables false
namespace Go.Proofs.YtbepibdjlajppaaDoor

theorem gen_shl (v p q M : Nat) (hp : 0 < p) (hq : 0 < q) (hM : 0 < M) : v * p / (M * (p * q)) = v / (M * (p * q)) * p + v / M % (p * q) / q := by
  have h1 : v / (M * (p * q)) = v / M / (p * q) := by rw [Nat.div_div_eq_div_mul]
  have h2 := Nat.div_add_mod v M
  have h3 := Nat.div_add_mod (v / M) (p * q)
  have h4 : v * p / (M * (p * q)) = v / M / q := by
    rw [show M * (p * q) = M * q * p from by rw [Nat.mul_comm p q, Nat.mul_assoc], Nat.mul_div_mul_right _ _ hp, Nat.div_div_eq_div_mul]
  rw [h4, h1]
  generalize v / M = x at *
  have h5 : x = x / (p * q) * (p * q) + x % (p * q) := by rw [Nat.mul_comm]; exact h3.symm
  conv => lhs; rw [h5]
  rw [show x / (p * q) * (p * q) = q * (x / (p * q) * p) from by rw [← Nat.mul_assoc, Nat.mul_comm q, Nat.mul_assoc]]
  rw [Nat.mul_add_div hq]

theorem pow_split (k : Nat) (hk : k < 64) : Bs = 2 ^ k * 2 ^ (64 - k) := by rw [← Nat.pow_add, show k + (64 - k) = 64 from by omega]

/-- The shift by less than a digit, up. -/
theorem shl_zero (v k : Nat) : dg (v * 2 ^ k) 0 = dg v 0 * 2 ^ k % 18446744073709551616 := by
  unfold dg
  rw [Nat.pow_zero, Nat.div_one, Nat.div_one]
  show _ = v % Bs * 2 ^ k % Bs
  rw [Nat.mod_mul_mod]
theorem shl_step (v k n : Nat) (hk : k < 64) (hn : 0 < n) : dg (v * 2 ^ k) n = dg v n * 2 ^ k % 18446744073709551616 + dg v (n - 1) / 2 ^ (64 - k) := by
  obtain ⟨m, rfl⟩ : ∃ m, n = m + 1 := ⟨n - 1, by omega⟩
  have hM := bsp_pos m
  have hp : 0 < 2 ^ k := Nat.pow_pos (by decide)
  have hq : 0 < 2 ^ (64 - k) := Nat.pow_pos (by decide)
  have g := gen_shl v (2 ^ k) (2 ^ (64 - k)) (Bs ^ m) hp hq hM
  have e := pow_split k hk
  have hd0 := Nat.mod_lt (v / Bs ^ m) bs_pos
  rw [show m + 1 - 1 = m from rfl]
  unfold dg
  show v * 2 ^ k / Bs ^ (m + 1) % Bs = v / Bs ^ (m + 1) % Bs * 2 ^ k % Bs + v / Bs ^ m % Bs / 2 ^ (64 - k)
  rw [Nat.pow_succ]
  generalize 2 ^ k = p at *
  generalize 2 ^ (64 - k) = q at *
  rw [← e] at g
  rw [g]
  generalize v / (Bs ^ m * Bs) = x at *
  generalize v / Bs ^ m % Bs = d at *
  generalize Bs = B at *
  subst e
  have h1 : d / q < p := by rw [Nat.div_lt_iff_lt_mul hq]; exact hd0
  have h2 : x % (p * q) * p % (p * q) = x % q * p := by
    rw [Nat.mod_mul_mod, Nat.mul_comm x p, Nat.mul_mod_mul_left, Nat.mul_comm]
  have h3 := Nat.div_add_mod x q
  rw [h2]
  have h4 : x * p + d / q = p * q * (x / q) + (x % q * p + d / q) := by
    have : x * p = p * q * (x / q) + x % q * p := by
      conv => lhs; rw [← h3]
      rw [Nat.add_mul, Nat.mul_comm (q * (x / q)) p, ← Nat.mul_assoc]
    omega
  rw [h4, Nat.mul_add_mod, Nat.mod_eq_of_lt]
  have h5 := Nat.mod_lt x hq
  have h6 : (x % q + 1) * p ≤ q * p := Nat.mul_le_mul_right _ h5
  rw [Nat.add_mul] at h6
  rw [Nat.mul_comm p q]
  omega

theorem u64_shl (x k : Nat) : IntKind.u64.wrap ((x : Int) * 2 ^ k) = ((x * 2 ^ k % 18446744073709551616 : Nat) : Int) := by
  rw [IntKind.wrap_u64]
  generalize h : x * 2 ^ k = y
  have : (x : Int) * 2 ^ k = (y : Nat) := by rw [← h]; exact_mod_cast rfl
  rw [this]; omega
theorem int_shr (x k : Nat) : (x : Int) / 2 ^ k = ((x / 2 ^ k : Nat) : Int) := by exact_mod_cast rfl
theorem or_nat (a b : Nat) (ha : a < 18446744073709551616) (hb : b < 18446744073709551616) : bits .or .u64 (a : Int) (b : Int) = ((a ||| b : Nat) : Int) :=
  (bits_nat .u64 64 (by decide) (fun n h0 h1 => by rw [IntKind.wrap_u64]; omega) a b ha hb).2
theorem or_up (x y k : Nat) (hk0 : 0 < k) (hk : k < 64) (hy : y < 18446744073709551616) :
    bits .or .u64 (IntKind.u64.wrap ((x : Int) * 2 ^ k)) ((y : Int) / 2 ^ (64 - k)) = ((x * 2 ^ k % 18446744073709551616 + y / 2 ^ (64 - k) : Nat) : Int) := by
  have h1 := Nat.mod_lt (x * 2 ^ k) bs_pos
  have h2 : y / 2 ^ (64 - k) < 2 ^ k := by
    rw [Nat.div_lt_iff_lt_mul (Nat.pow_pos (by decide)), ← pow_split k hk]; exact hy
  have h3 : 2 ^ k ≤ 2 ^ 63 := Nat.pow_le_pow_right (by decide) (by omega)
  rw [u64_shl, int_shr, or_nat _ _ h1 (by omega)]
  have h4 : x * 2 ^ k % 18446744073709551616 = 2 ^ k * (x % 2 ^ (64 - k)) := by
    show x * 2 ^ k % Bs = _
    rw [pow_split k hk, Nat.mul_comm x, Nat.mul_mod_mul_left]
  rw [h4, Nat.two_pow_add_eq_or_of_lt h2]
theorem or_down (x y k : Nat) (hk0 : 0 < k) (hk : k < 64) (hx : x < 18446744073709551616) :
    bits .or .u64 ((x : Int) / 2 ^ k) (IntKind.u64.wrap ((y : Int) * 2 ^ (64 - k))) = ((x / 2 ^ k + y * 2 ^ (64 - k) % 18446744073709551616 : Nat) : Int) := by
  have h1 := Nat.mod_lt (y * 2 ^ (64 - k)) bs_pos
  have e : Bs = 2 ^ (64 - k) * 2 ^ k := by rw [Nat.mul_comm]; exact pow_split k hk
  have h2 : x / 2 ^ k < 2 ^ (64 - k) := by
    rw [Nat.div_lt_iff_lt_mul (Nat.pow_pos (by decide)), ← e]; exact hx
  have h3 : 2 ^ (64 - k) ≤ 2 ^ 63 := Nat.pow_le_pow_right (by decide) (by omega)
  rw [u64_shl, int_shr, or_nat _ _ (by omega) h1]
  have h4 : y * 2 ^ (64 - k) % 18446744073709551616 = 2 ^ (64 - k) * (y % 2 ^ k) := by
    show y * 2 ^ (64 - k) % Bs = _
    rw [e, Nat.mul_comm y, Nat.mul_mod_mul_left]
  rw [h4, Nat.or_comm, ← Nat.two_pow_add_eq_or_of_lt h2, Nat.add_comm]
end Go.Proofs.YtbepibdjlajppaaDoor
