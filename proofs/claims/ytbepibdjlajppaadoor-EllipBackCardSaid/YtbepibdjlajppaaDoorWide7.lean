
/-
  The walk of divide, by a divisor of one digit.
-/
import Derived.Test.YtbepibdjlajppaaDoorWide6
import Derived.Deep.RegionHeld3
set_option linter.unusedVariables false
namespace Go.Proofs.YtbepibdjlajppaaDoor
open Go.RowKit

/-- The digits of a quotient, as far as they are reckoned (from the top). -/
def dvTo (a b n : Nat) : Nat → Nat := fun j => if n ≤ j then dg (a / b) j else 0
theorem dvTo_step (a b n j : Nat) (h : j ≠ n) : dvTo a b (n + 1) j = dvTo a b n j := by
  unfold dvTo; by_cases hj : n ≤ j <;> simp [hj, show n + 1 ≤ j ↔ n < j from Iff.rfl] <;> omega
theorem dvTo_at (a b n : Nat) : dvTo a b n n = dg (a / b) n := by unfold dvTo; rw [if_pos (Nat.le_refl _)]

/-- What is left of a division, behind so many digits. -/
def rm (a b i : Nat) : Nat := a / Bs ^ i % b
theorem cm_neg (a b : Nat) : cm a b < 0 ↔ a < b := by unfold cm; split <;> (try split) <;> omega
theorem nd_one (b : Nat) (h0 : 0 < b) (h : b < 18446744073709551616) : nd b = 1 := by
  have key : ∀ n, ndTo b (n + 1) = 1 := by
    intro n
    induction n with
    | zero =>
      rw [ndTo]
      rw [if_neg (by rw [dg_small b h]; simp; omega)]
    | succ n ih => rw [ndTo, if_pos (by rw [dg_small b h]; simp), ih]
  exact key 15

end Go.Proofs.YtbepibdjlajppaaDoor
