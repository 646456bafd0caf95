
/-
  The walk of down: a number shifted down by less than a digit.
-/
import Derived.Test.YtbepibdjlajppaaDoorWide5
set_option linter.unusedVariables false
namespace Go.Proofs.YtbepibdjlajppaaDoor
open Go.RowKit

/-- The digits of what is shifted down, as far as they are reckoned. -/
def downTo (v k n : Nat) : Nat → Nat := fun j => if j < n then dg (v / 2 ^ k) j else 0
theorem downTo_step (v k n j : Nat) (h : j ≠ n) : downTo v k n j = downTo v k (n + 1) j := by
  unfold downTo; by_cases hj : j < n <;> simp [hj] <;> omega
theorem downTo_at (v k n : Nat) : downTo v k (n + 1) n = dg (v / 2 ^ k) n := by unfold downTo; rw [if_pos (by omega)]

end Go.Proofs.YtbepibdjlajppaaDoor
