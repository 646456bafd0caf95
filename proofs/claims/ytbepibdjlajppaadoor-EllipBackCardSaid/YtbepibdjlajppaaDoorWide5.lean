
/-
  The walks of up, down: a number shifted by less than a digit.
-/
import Derived.Test.YtbepibdjlajppaaDoorWide4
import Derived.Test.YtbepibdjlajppaaDoorShift
set_option linter.unusedVariables false
namespace Go.Proofs.YtbepibdjlajppaaDoor
open Go.RowKit

theorem lim_set2 (m : Nat) (f g : Nat → Nat) (i : Nat) (u : Value) (x : Int) (hi : i < m) (hv : x = ((g i : Nat) : Int)) (h : ∀ j, j < m → j ≠ i → f j = g j) : ((lim m f).setIfInBounds i u).setIfInBounds i (.int .u64 x) = lim m g := by
  rw [← lim_set m f g i x hi hv h]
  apply Array.ext_getElem?
  intro j
  simp only [Array.getElem?_setIfInBounds, Array.size_setIfInBounds]
  split <;> simp_all

/-- The digits of what is shifted up, as far as they are reckoned (from the top). -/
def upTo (v k n : Nat) : Nat → Nat := fun j => if n ≤ j then dg (v * 2 ^ k) j else 0
theorem upTo_step (v k n j : Nat) (h : j ≠ n) : upTo v k (n + 1) j = upTo v k n j := by
  unfold upTo; by_cases hj : n ≤ j <;> simp [hj, show n + 1 ≤ j ↔ n < j from Iff.rfl] <;> omega
theorem upTo_at (v k n : Nat) : upTo v k n n = dg (v * 2 ^ k) n := by unfold upTo; rw [if_pos (Nat.le_refl _)]

end Go.Proofs.YtbepibdjlajppaaDoor
