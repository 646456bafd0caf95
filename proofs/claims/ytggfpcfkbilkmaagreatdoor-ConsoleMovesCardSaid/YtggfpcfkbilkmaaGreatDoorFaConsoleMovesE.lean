
/-
  Closed facts of the row consoleMoves: the others.
-/
import Derived.Test.YtggfpcfkbilkmaaGreatDoorRows
import Derived.ProofKit
import Derived.JoinedOf
import Derived.KernelRfl
set_option linter.unusedVariables false
set_option linter.unusedSimpArgs false
namespace Go.Proofs.YtggfpcfkbilkmaaGreatDoor.consoleMoves
open Go

theorem facts (hA : (Rows.consoleMovesRow.inPlace == Tryz.pinned.checked.prog.inPlace 3) = true) (hB : (Rows.consoleMovesRow.unfollowed == Tryz.pinned.checked.prog.unfollowed 3) = true) (hC : (Rows.consoleMovesRow.recurses == Tryz.pinned.checked.prog.recurses 3) = true) (hD : (Rows.consoleMovesRow.named == Tryz.pinned.checked.prog.varsNamed 3) = true) : joinedFacts Tryz.pinned.checked.prog 3 Tryz.f3 Rows.consoleMovesSpec Rows.consoleMovesRow = true := by
  unfold joinedFacts
  simp only [hA, hB, hC, hD, Bool.and_true, Bool.true_and]
  kernel_rfl
end Go.Proofs.YtggfpcfkbilkmaaGreatDoor.consoleMoves
