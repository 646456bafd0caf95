
/-
  The walks of wide's down by one, Sqrt, Cmp, and of root's WideUp, Up.
-/
import Derived.Test.YtbepibdjlajppaaDoorWa
import Derived.Test.YtbepibdjlajppaaDoorI64
import Derived.Test.YtbepibdjlajppaaDoorRoot0
import Derived.Test.YtbepibdjlajppaaDoorWide6
import Derived.Test.YtbepibdjlajppaaDoorMore
set_option linter.unusedVariables false
set_option linter.unusedSimpArgs false
namespace Go.Proofs.YtbepibdjlajppaaDoor
open Go Go.RowKit Sx

theorem fd2 (n : Nat) : ((n : Nat) : Int).fdiv (2 ^ sh (Int.tmod 1 64) IntKind.u64) = ((n / 2 : Nat) : Int) := by
  rw [show sh (Int.tmod 1 64) IntKind.u64 = 1 from by decide, Int.fdiv_eq_ediv_of_nonneg _ (by decide)]; omega
def dn1 (v : Nat) : Bool := IntKind.u64.wrap (((dg v 0 : Nat) : Int) * 2 ^ 63) != 0
theorem downTo_zero (v : Nat) : limL 16 (downTo v 1 0) = limL 16 (fun _ => 0) := limL_same fun j _ => by simp [downTo]
theorem downTo_end (v : Nat) : limL 16 (downTo v 1 16) = limL 16 (dg (v / 2)) := limL_same fun j hj => by unfold downTo; rw [if_pos hj]
/-- The digits while the i-th is half done. -/
def downM (v i : Nat) : Nat → Nat := fun j => if j = i then dg v i / 2 else downTo v 1 i j
end Go.Proofs.YtbepibdjlajppaaDoor
