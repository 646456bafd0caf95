/-
  DERIVED. GIVEN WITH THE SEED: THE CARDS: each row of YtggfpcfkbilkmaaGreatDoorRows.lean that lists a variable, with what it lists TIED to the program's text (the seventh form; the later family's looks); each row that meets fmt, with fmt's text TOLD by the authors' own Lean function (tested against real Go, not proved from fmt's source: count such statements apart). THE CARD IS WHAT COUNTS. Prove the row's statement (the work); the ties are given (YtggfpcfkbilkmaaGreatDoorTie.lean); close each card by the builder's one call (the guide's Derived/Test/ToyasCard.lean, 'card_holds'). Laid BY PROGRAM, IN A SANDBOX (cutbox-door.mjs). By AI agents, Wed Nov 11 2026. No macro, syntax, notation, axiom, sorry.
-/
import Derived.Test.YtggfpcfkbilkmaaGreatDoorRows
import GoSem.ClaimSeven
namespace Go.Proofs.YtggfpcfkbilkmaaGreatDoor
namespace Rows

/-- THE TIED CARD OF 'alidadelaw26.ConsoleMoves'. -/
def consoleMovesCard : Claim7 := { stood := { row := consoleMovesRow, standIns := [], harness := (true, "f56277e47947c11450e1778118f0eb81072f9d2a46bd1e719834254c2d8845c1"), looks := true }, kinds := [], alts := [], laidByText := true, laidKinds := [.data, .data, .data, .data, .sentinel, .sentinel, .pinned], laidTests := true, laidLooks := .later }
def ConsoleMovesCardSaid : Prop := Claim7.holds Tryz.pinned (.plain (OpenSpec.ofChange consoleMovesSpec)) consoleMovesCard

/-- THE TIED CARD OF 'alidadelaw26.ConsoleNil'. -/
def consoleNilCard : Claim7 := { stood := { row := consoleNilRow, standIns := [], harness := (true, "f56277e47947c11450e1778118f0eb81072f9d2a46bd1e719834254c2d8845c1"), looks := true }, kinds := [], alts := [], laidByText := true, laidKinds := [.data, .data, .data, .data, .sentinel, .sentinel, .pinned], laidTests := true, laidLooks := .later }
def ConsoleNilCardSaid : Prop := Claim7.holds Tryz.pinned (.plain (OpenSpec.ofChange consoleNilSpec)) consoleNilCard

/-- THE SECOND FORM's CARD OF 'alidadelaw26.ConsoleMoves'. -/
def consoleMovesUptoCard : Claim7 := { stood := { row := consoleMovesUptoRow, standIns := [], harness := (true, "f56277e47947c11450e1778118f0eb81072f9d2a46bd1e719834254c2d8845c1"), looks := true }, kinds := [], alts := [], laidByText := true, laidKinds := [.data, .data, .data, .data, .sentinel, .sentinel, .pinned], laidTests := true, laidLooks := .later }
def ConsoleMovesUptoCardSaid : Prop := Claim7.holds Tryz.pinned (.plain (OpenSpec.upto consoleMovesSpec)) consoleMovesUptoCard

/-- THE SECOND FORM's CARD OF 'alidadelaw26.ConsoleNil'. -/
def consoleNilUptoCard : Claim7 := { stood := { row := consoleNilUptoRow, standIns := [], harness := (true, "f56277e47947c11450e1778118f0eb81072f9d2a46bd1e719834254c2d8845c1"), looks := true }, kinds := [], alts := [], laidByText := true, laidKinds := [.data, .data, .data, .data, .sentinel, .sentinel, .pinned], laidTests := true, laidLooks := .later }
def ConsoleNilUptoCardSaid : Prop := Claim7.holds Tryz.pinned (.plain (OpenSpec.upto consoleNilSpec)) consoleNilUptoCard
end Rows
end Go.Proofs.YtggfpcfkbilkmaaGreatDoor
