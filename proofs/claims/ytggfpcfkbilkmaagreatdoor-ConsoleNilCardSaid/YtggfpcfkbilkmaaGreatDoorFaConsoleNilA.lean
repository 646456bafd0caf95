
/-
  Closed facts of the row consoleNil: inPlace.
-/
import Derived.Test.YtggfpcfkbilkmaaGreatDoorRows
import Derived.ProofKit
import Derived.JoinedOf
import Derived.KernelRfl
set_option linter.unusedVariables false
set_option linter.unusedSimpArgs false
namespace Go.Proofs.YtggfpcfkbilkmaaGreatDoor.consoleNil
open Go

theorem factA : (Rows.consoleNilRow.inPlace == Tryz.pinned.checked.prog.inPlace 4) = true := by kernel_rfl
end Go.Proofs.YtggfpcfkbilkmaaGreatDoor.consoleNil
