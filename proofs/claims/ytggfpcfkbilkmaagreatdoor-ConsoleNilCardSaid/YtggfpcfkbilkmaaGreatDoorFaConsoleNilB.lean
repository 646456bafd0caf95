
/-
  Closed facts of the row consoleNil: unfollowed.
-/
import Derived.Test.YtggfpcfkbilkmaaGreatDoorRows
import Derived.ProofKit
import Derived.JoinedOf
import Derived.KernelRfl
set_option linter.unusedVariables false
set_option linter.unusedSimpArgs false
namespace Go.Proofs.YtggfpcfkbilkmaaGreatDoor.consoleNil
open Go

theorem factB : (Rows.consoleNilRow.unfollowed == Tryz.pinned.checked.prog.unfollowed 4) = true := by kernel_rfl
end Go.Proofs.YtggfpcfkbilkmaaGreatDoor.consoleNil
