/-
  DERIVED. GIVEN WITH THE SEED: THE CARDS: each row of YtbepibdjlajppaaDoorRows.lean that lists a variable, with what it lists TIED to the program's text (the seventh form; the later family's looks); each row that meets fmt, with fmt's text TOLD by the authors' own Lean function (tested against real Go, not proved from fmt's source: count such statements apart). THE CARD IS WHAT COUNTS. Prove the row's statement (the work); the ties are given (YtbepibdjlajppaaDoorTie.lean); close each card by the builder's one call (the guide's Derived/Test/ToyasCard.lean, 'card_holds'). Laid BY PROGRAM, IN A SANDBOX (cutbox-door.mjs). By AI agents, Wed Nov 11 2026. No macro, syntax, notation, axiom, sorry.
-/
import Derived.Test.YtbepibdjlajppaaDoorRows
import GoSem.ClaimSeven
namespace Go.Proofs.YtbepibdjlajppaaDoor
namespace Rows

/-- THE TIED CARD OF 'alidadelaw4.EllipBack'. -/
def ellipBackCard : Claim7 := { stood := { row := ellipBackRow, standIns := [], harness := (true, "16a6b6a4823672dc16f6f1df3cdaa813fac78759cebe465f543715a045f9dff2"), looks := true }, kinds := [], alts := [], laidByText := true, laidKinds := [.data, .data, .data, .data, .sentinel, .sentinel, .pinned], laidTests := true, laidLooks := .later }
def EllipBackCardSaid : Prop := Claim7.holds Tryd.pinned (.plain (OpenSpec.ofChange ellipBackSpec)) ellipBackCard

/-- THE SECOND FORM's CARD OF 'alidadelaw4.EllipBack'. -/
def ellipBackUptoCard : Claim7 := { stood := { row := ellipBackUptoRow, standIns := [], harness := (true, "16a6b6a4823672dc16f6f1df3cdaa813fac78759cebe465f543715a045f9dff2"), looks := true }, kinds := [], alts := [], laidByText := true, laidKinds := [.data, .data, .data, .data, .sentinel, .sentinel, .pinned], laidTests := true, laidLooks := .later }
def EllipBackUptoCardSaid : Prop := Claim7.holds Tryd.pinned (.plain (OpenSpec.upto ellipBackSpec)) ellipBackUptoCard
end Rows
end Go.Proofs.YtbepibdjlajppaaDoor
