
/-
  Closed facts of the row consoleMoves: what it goes by.
-/
import Derived.Test.YtggfpcfkbilkmaaGreatDoorRows
import Derived.Test.YtggfpcfkbilkmaaGreatDoorCards
import Derived.KernelRfl
set_option linter.unusedVariables false
set_option linter.unusedSimpArgs false
namespace Go.Proofs.YtggfpcfkbilkmaaGreatDoor.consoleMoves
open Go

theorem factF : false = Rows.consoleMovesRow.goesBy Tryz.pinned.checked.prog := by kernel_rfl
end Go.Proofs.YtggfpcfkbilkmaaGreatDoor.consoleMoves
