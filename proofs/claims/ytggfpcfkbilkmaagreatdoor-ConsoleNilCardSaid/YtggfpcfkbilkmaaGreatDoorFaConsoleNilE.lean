
/-
  Closed facts of the row consoleNil: the others.
-/
import Derived.Test.YtggfpcfkbilkmaaGreatDoorRows
import Derived.ProofKit
import Derived.JoinedOf
import Derived.KernelRfl
set_option linter.unusedVariables false
set_option linter.unusedSimpArgs false
namespace Go.Proofs.YtggfpcfkbilkmaaGreatDoor.consoleNil
open Go

theorem facts (hA : (Rows.consoleNilRow.inPlace == Tryz.pinned.checked.prog.inPlace 4) = true) (hB : (Rows.consoleNilRow.unfollowed == Tryz.pinned.checked.prog.unfollowed 4) = true) (hC : (Rows.consoleNilRow.recurses == Tryz.pinned.checked.prog.recurses 4) = true) (hD : (Rows.consoleNilRow.named == Tryz.pinned.checked.prog.varsNamed 4) = true) : joinedFacts Tryz.pinned.checked.prog 4 Tryz.f4 Rows.consoleNilSpec Rows.consoleNilRow = true := by
  unfold joinedFacts
  simp only [hA, hB, hC, hD, Bool.and_true, Bool.true_and]
  kernel_rfl
end Go.Proofs.YtggfpcfkbilkmaaGreatDoor.consoleNil
