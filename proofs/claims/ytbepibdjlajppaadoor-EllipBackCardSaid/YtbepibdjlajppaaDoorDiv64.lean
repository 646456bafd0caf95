
/-
  The walk of bits.Div64.
-/
import Derived.Test.YtbepibdjlajppaaDoorWide7
import Derived.Test.YtbepibdjlajppaaDoorShift
import Derived.Test.YtbepibdjlajppaaDoorKnuth
set_option linter.unusedVariables false
namespace Go.Proofs.YtbepibdjlajppaaDoor
open Go.RowKit

/-- The quotient, what is left. -/
def d64q (hi lo y : Nat) : Nat := (hi * 18446744073709551616 + lo) / y
def d64r (hi lo y : Nat) : Nat := (hi * 18446744073709551616 + lo) % y

/-- How far a divisor is shifted up. -/
theorem norm_shift (y : Nat) (h0 : 0 < y) (hy : y < 18446744073709551616) : ∃ s : Nat, s < 64 ∧ (64 : Int) - (lb y : Int) = (s : Int) ∧ 9223372036854775808 ≤ y * 2 ^ s ∧ y * 2 ^ s < 18446744073709551616 := by
  obtain ⟨b1, b2⟩ := bitLenAux_spec 64 y hy
  obtain ⟨b3, b4⟩ := b2 (by omega)
  have e : Lib.bitLenAux 64 y = lb y := rfl
  rw [e] at b1 b3 b4
  have hl := lb_le y hy
  refine ⟨64 - lb y, by omega, by omega, ?_, ?_⟩
  · have : 2 ^ (lb y - 1) * 2 ^ (64 - lb y) = 9223372036854775808 := by
      rw [← Nat.pow_add, show lb y - 1 + (64 - lb y) = 63 from by omega]
    rw [← this]
    exact Nat.mul_le_mul_right _ b3
  · have : 2 ^ lb y * 2 ^ (64 - lb y) = 18446744073709551616 := by
      rw [← Nat.pow_add, show lb y + (64 - lb y) = 64 from by omega]
    rw [← this]
    exact Nat.mul_lt_mul_of_pos_right b1 (Nat.pow_pos (by decide))

theorem and_low (x : Nat) (hx : x < 18446744073709551616) : bits .and .u64 (x : Int) 4294967295 = ((x % 4294967296 : Nat) : Int) := by
  have := (bits_nat .u64 64 (by decide) (fun n h0 h1 => by rw [IntKind.wrap_u64]; omega) x 4294967295 hx (by decide)).1
  refine this.trans ?_
  rw [show (4294967295 : Nat) = 2 ^ 32 - 1 from rfl, Nat.and_two_pow_sub_one_eq_mod]
theorem or_words (hi lo s : Nat) (hs : s < 64) (h1 : hi * 2 ^ s < 18446744073709551616) (hlo : lo < 18446744073709551616) :
    bits .or .u64 (IntKind.u64.wrap ((hi : Int) * 2 ^ s)) ((lo : Int) / 2 ^ (64 - s)) = ((hi * 2 ^ s + lo / 2 ^ (64 - s) : Nat) : Int) := by
  by_cases h0 : 0 < s
  · rw [or_up hi lo s h0 hs hlo, Nat.mod_eq_of_lt h1]
  · obtain rfl : s = 0 := by omega
    rw [u64_shl, int_shr, or_nat _ _ (Nat.mod_lt _ (by decide)) (Nat.lt_of_le_of_lt (Nat.div_le_self _ _) hlo), Nat.mod_eq_of_lt h1]
    rw [show lo / 2 ^ (64 - 0) = 0 from Nat.div_eq_of_lt hlo, Nat.or_zero, Nat.add_zero]

end Go.Proofs.YtbepibdjlajppaaDoor
