/-
  DERIVED. GIVEN WITH THE SEED: THE CARDS: each row of YtdnkeeedcnjofaaGreatDoorRows.lean that lists a variable, with what it lists TIED to the program's text (the seventh form; the later family's looks); each row that meets fmt, with fmt's text TOLD by the authors' own Lean function (tested against real Go, not proved from fmt's source: count such statements apart). THE CARD IS WHAT COUNTS. Prove the row's statement (the work); the ties are given (YtdnkeeedcnjofaaGreatDoorTie.lean); close each card by the builder's one call (the guide's Derived/Test/ToyasCard.lean, 'card_holds'). Laid BY PROGRAM, IN A SANDBOX (cutbox-door.mjs). By AI agents, Wed Nov 11 2026. No macro, syntax, notation, axiom, sorry.
-/
import Derived.Test.YtdnkeeedcnjofaaGreatDoorRows
import GoSem.ClaimSeven
namespace Go.Proofs.YtdnkeeedcnjofaaGreatDoor
namespace Rows

/-- THE TIED CARD OF 'alidadelaw4.EllipTexts'. -/
def ellipTextsCard : Claim7 := { stood := { row := ellipTextsRow, standIns := [], harness := (true, "72df171281031febb00768a653949aaf79be14f52c3b08a682e88723dc04b572"), looks := true }, kinds := [], alts := [], laidByText := true, laidKinds := [.data, .data, .data, .data, .sentinel, .sentinel, .pinned], laidTests := true, laidLooks := .later }
def EllipTextsCardSaid : Prop := Claim7.holds Tryz.pinned (.plain (OpenSpec.ofChange ellipTextsSpec)) ellipTextsCard

/-- THE SECOND FORM's CARD OF 'alidadelaw4.EllipTexts'. -/
def ellipTextsUptoCard : Claim7 := { stood := { row := ellipTextsUptoRow, standIns := [], harness := (true, "72df171281031febb00768a653949aaf79be14f52c3b08a682e88723dc04b572"), looks := true }, kinds := [], alts := [], laidByText := true, laidKinds := [.data, .data, .data, .data, .sentinel, .sentinel, .pinned], laidTests := true, laidLooks := .later }
def EllipTextsUptoCardSaid : Prop := Claim7.holds Tryz.pinned (.plain (OpenSpec.upto ellipTextsSpec)) ellipTextsUptoCard
end Rows
end Go.Proofs.YtdnkeeedcnjofaaGreatDoor
