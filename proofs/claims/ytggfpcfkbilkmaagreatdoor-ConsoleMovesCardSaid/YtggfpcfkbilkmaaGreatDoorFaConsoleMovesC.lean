
/-
  Closed facts of the row consoleMoves: recurses.
-/
import Derived.Test.YtggfpcfkbilkmaaGreatDoorRows
import Derived.ProofKit
import Derived.JoinedOf
import Derived.KernelRfl
set_option linter.unusedVariables false
set_option linter.unusedSimpArgs false
namespace Go.Proofs.YtggfpcfkbilkmaaGreatDoor.consoleMoves
open Go

theorem factC : (Rows.consoleMovesRow.recurses == Tryz.pinned.checked.prog.recurses 3) = true := by kernel_rfl
end Go.Proofs.YtggfpcfkbilkmaaGreatDoor.consoleMoves
