/-
  No cell of these rows narrows 'for every input' (looked for: loops, veiled, ifaces, maps, wideKeys, modest, calm, conditions, laid).
  DERIVED. THE GIVEN ROWS OF THIS SEAT. 5 by the template 'for every input the law returns true; each argument reads behind the call as it read before'; 0 by the template 'total and deterministic' (their statements: YtfpmmahonddpoaaTotals.lean).
  GIVEN WITH THE SEED: the statements are not yours to turn. If you find one false, say at which input.
  Laid BY PROGRAM, IN A SANDBOX (cutbox-rows.mjs): the forced cells as the released guide's own fill.sh prints them over the translation fc252c25398f9569… (all of the seat's roots in one cut). By AI agents, Wed Nov 11 2026. No macro, syntax, notation, axiom, sorry.
-/
import Derived.Test.YtfpmmahonddpoaaChecked
import GoSem.Claim
import GoSem.ClaimJoined
import GoSem.ClaimMapViews
import Derived.JoinedTies
import Derived.KernelRfl
namespace Go.Proofs.Ytfpmmahonddpoaa
/- THE CELL 'sum', in the pinned program and in every row, IS THE sha256 OF THE DUMP (.gsa) THAT YtfpmmahonddpoaaProg.lean LOADS. Nothing in Lean hashes anything: it is a label: what it is worth is what the hold of that sum in a sandbox is worth. -/
noncomputable def Try.pinned : Pinned := { name := "ytfpmmahonddpoaa", sum := "fc252c25398f9569124bb9a65fd0ecfe4fd894a52e12a04a14ceaaa82c3f16b0", checked := Try.checked }
namespace Rows
def none {H : Type} : Left H := { results := [], args := [] }

/-- 'alidadelaw24.TruthMoves': WHATEVER THE INPUT: true; the input reads as it did. -/
def truthMovesSpec : ChangeSpec := { name := "truthMoves", fn := fun _ => fun
  | [d1, d2, d3] => { results := [.lit (.bool true)], args := [d1, d2, d3] }
  | _ => none }
def truthMovesRow : OpenClaim := { program := "ytfpmmahonddpoaa", sum := "fc252c25398f9569124bb9a65fd0ecfe4fd894a52e12a04a14ceaaa82c3f16b0", func := "alidade/alidadelaw24.TruthMoves", spec := "truthMoves", inPlace := ["math/bits.Add64", "math/bits.Sub64"], named := ["math/bits.divideError", "math/bits.overflowError"], apart := false }
def TruthMovesSaid : Prop := truthMovesRow.holds Try.pinned (OpenSpec.ofChange truthMovesSpec)

/-- ITS FALSE NEIGHBOUR: 'it returns false'. Refute it at one input. -/
def truthMovesWrong : ChangeSpec := { name := "truthMoves", fn := fun _ => fun
  | [d1, d2, d3] => { results := [.lit (.bool false)], args := [d1, d2, d3] }
  | _ => none }
def TruthMovesWrongFalsely : Prop := truthMovesRow.holds Try.pinned (OpenSpec.ofChange truthMovesWrong)

/-- 'alidadelaw24.TruthFlights': WHATEVER THE INPUT: true; the input reads as it did. -/
def truthFlightsSpec : ChangeSpec := { name := "truthFlights", fn := fun _ => fun
  | [d1, d2, d3, d4, d5] => { results := [.lit (.bool true)], args := [d1, d2, d3, d4, d5] }
  | _ => none }
def truthFlightsRow : OpenClaim := { program := "ytfpmmahonddpoaa", sum := "fc252c25398f9569124bb9a65fd0ecfe4fd894a52e12a04a14ceaaa82c3f16b0", func := "alidade/alidadelaw24.TruthFlights", spec := "truthFlights", inPlace := ["math/bits.Add64", "math/bits.Sub64"], named := ["math/bits.divideError", "math/bits.overflowError"], apart := false }
def TruthFlightsSaid : Prop := truthFlightsRow.holds Try.pinned (OpenSpec.ofChange truthFlightsSpec)

/-- ITS FALSE NEIGHBOUR: 'it returns false'. Refute it at one input. -/
def truthFlightsWrong : ChangeSpec := { name := "truthFlights", fn := fun _ => fun
  | [d1, d2, d3, d4, d5] => { results := [.lit (.bool false)], args := [d1, d2, d3, d4, d5] }
  | _ => none }
def TruthFlightsWrongFalsely : Prop := truthFlightsRow.holds Try.pinned (OpenSpec.ofChange truthFlightsWrong)

/-- 'alidadelaw24.TruthStart': WHATEVER THE INPUT: true; the input reads as it did. -/
def truthStartSpec : ChangeSpec := { name := "truthStart", fn := fun _ => fun
  | [d1, d2] => { results := [.lit (.bool true)], args := [d1, d2] }
  | _ => none }
def truthStartRow : OpenClaim := { program := "ytfpmmahonddpoaa", sum := "fc252c25398f9569124bb9a65fd0ecfe4fd894a52e12a04a14ceaaa82c3f16b0", func := "alidade/alidadelaw24.TruthStart", spec := "truthStart", inPlace := ["math/bits.Add64", "math/bits.Sub64"], named := ["math/bits.divideError", "math/bits.overflowError"], apart := false }
def TruthStartSaid : Prop := truthStartRow.holds Try.pinned (OpenSpec.ofChange truthStartSpec)

/-- ITS FALSE NEIGHBOUR: 'it returns false'. Refute it at one input. -/
def truthStartWrong : ChangeSpec := { name := "truthStart", fn := fun _ => fun
  | [d1, d2] => { results := [.lit (.bool false)], args := [d1, d2] }
  | _ => none }
def TruthStartWrongFalsely : Prop := truthStartRow.holds Try.pinned (OpenSpec.ofChange truthStartWrong)

/-- 'alidadelaw24.TruthNil': WHATEVER THE INPUT: true; the input reads as it did. -/
def truthNilSpec : ChangeSpec := { name := "truthNil", fn := fun _ => fun
  | [d1, d2] => { results := [.lit (.bool true)], args := [d1, d2] }
  | _ => none }
def truthNilRow : OpenClaim := { program := "ytfpmmahonddpoaa", sum := "fc252c25398f9569124bb9a65fd0ecfe4fd894a52e12a04a14ceaaa82c3f16b0", func := "alidade/alidadelaw24.TruthNil", spec := "truthNil", inPlace := ["math/bits.Add64", "math/bits.Sub64"], named := ["math/bits.divideError", "math/bits.overflowError"], apart := false }
def TruthNilSaid : Prop := truthNilRow.holds Try.pinned (OpenSpec.ofChange truthNilSpec)

/-- ITS FALSE NEIGHBOUR: 'it returns false'. Refute it at one input. -/
def truthNilWrong : ChangeSpec := { name := "truthNil", fn := fun _ => fun
  | [d1, d2] => { results := [.lit (.bool false)], args := [d1, d2] }
  | _ => none }
def TruthNilWrongFalsely : Prop := truthNilRow.holds Try.pinned (OpenSpec.ofChange truthNilWrong)

/-- 'alidadelaw24.TruthClocks': WHATEVER THE INPUT: true; the input reads as it did. -/
def truthClocksSpec : ChangeSpec := { name := "truthClocks", fn := fun _ => fun
  | [d1, d2, d3, d4, d5] => { results := [.lit (.bool true)], args := [d1, d2, d3, d4, d5] }
  | _ => none }
def truthClocksRow : OpenClaim := { program := "ytfpmmahonddpoaa", sum := "fc252c25398f9569124bb9a65fd0ecfe4fd894a52e12a04a14ceaaa82c3f16b0", func := "alidade/alidadelaw24.TruthClocks", spec := "truthClocks", inPlace := ["math/bits.Add64", "math/bits.Sub64"], named := ["math/bits.divideError", "math/bits.overflowError"], apart := false }
def TruthClocksSaid : Prop := truthClocksRow.holds Try.pinned (OpenSpec.ofChange truthClocksSpec)

/-- ITS FALSE NEIGHBOUR: 'it returns false'. Refute it at one input. -/
def truthClocksWrong : ChangeSpec := { name := "truthClocks", fn := fun _ => fun
  | [d1, d2, d3, d4, d5] => { results := [.lit (.bool false)], args := [d1, d2, d3, d4, d5] }
  | _ => none }
def TruthClocksWrongFalsely : Prop := truthClocksRow.holds Try.pinned (OpenSpec.ofChange truthClocksWrong)

/- THE SECOND FORM. 'bulk': how many values and letters a reading holds, each counted each time it is reached (what is shared counts as often as it is met; a slice's spare places count too). A statement '..UptoSaid' is the law's where the arguments, and the package variables that the reading takes, are together of bulk at most 1048576: NARROWER than '..Said'. Prove '..Said' where nothing that the law and all that it calls make is longer than what came in: it says more and counts as full. Else prove '..UptoSaid'. A law counts once. -/
mutual
def uptoBulk {H : Type} : DataW H → Nat
  | .lit (.string bytes) => bytes.length + 1
  | .lit _ => 1
  | .nil => 1
  | .ptr d => uptoBulk d + 1
  | .slice elems spare => uptoBulkAll elems + uptoBulkAll spare + 1
  | .agg parts => uptoBulkAll parts + 1
  | .iface _ d => uptoBulk d + 1
  | .map entries => uptoBulkEntries entries + 1
  | .held _ => 1
def uptoBulkAll {H : Type} : List (DataW H) → Nat
  | [] => 0
  | d :: r => uptoBulk d + uptoBulkAll r
def uptoBulkEntries {H : Type} : List (Lit × DataW H) → Nat
  | [] => 0
  | x :: r => uptoBulkEntry x + uptoBulkEntries r
def uptoBulkEntry {H : Type} : Lit × DataW H → Nat
  | (.string bytes, d) => bytes.length + uptoBulk d + 1
  | (_, d) => uptoBulk d + 1
 end
def uptoSmall : (H : Type) → List (DataW H) → Bool := fun _ ds => decide (uptoBulkAll ds ≤ 1048576)
def OpenSpec.upto (s : _root_.Go.ChangeSpec) : _root_.Go.OpenSpec := { _root_.Go.OpenSpec.ofChange s with cond := some uptoSmall }

/-- 'alidadelaw24.TruthMoves', WHERE WHAT IT READS IS OF BULK AT MOST 1048576: true; the input reads as it did. -/
def truthMovesUptoRow : OpenClaim := { program := "ytfpmmahonddpoaa", sum := "fc252c25398f9569124bb9a65fd0ecfe4fd894a52e12a04a14ceaaa82c3f16b0", func := "alidade/alidadelaw24.TruthMoves", spec := "truthMoves", inPlace := ["math/bits.Add64", "math/bits.Sub64"], named := ["math/bits.divideError", "math/bits.overflowError"], apart := false, narrowed := true }
def TruthMovesUptoSaid : Prop := truthMovesUptoRow.holds Try.pinned (OpenSpec.upto truthMovesSpec)

/-- 'alidadelaw24.TruthFlights', WHERE WHAT IT READS IS OF BULK AT MOST 1048576: true; the input reads as it did. -/
def truthFlightsUptoRow : OpenClaim := { program := "ytfpmmahonddpoaa", sum := "fc252c25398f9569124bb9a65fd0ecfe4fd894a52e12a04a14ceaaa82c3f16b0", func := "alidade/alidadelaw24.TruthFlights", spec := "truthFlights", inPlace := ["math/bits.Add64", "math/bits.Sub64"], named := ["math/bits.divideError", "math/bits.overflowError"], apart := false, narrowed := true }
def TruthFlightsUptoSaid : Prop := truthFlightsUptoRow.holds Try.pinned (OpenSpec.upto truthFlightsSpec)

/-- 'alidadelaw24.TruthStart', WHERE WHAT IT READS IS OF BULK AT MOST 1048576: true; the input reads as it did. -/
def truthStartUptoRow : OpenClaim := { program := "ytfpmmahonddpoaa", sum := "fc252c25398f9569124bb9a65fd0ecfe4fd894a52e12a04a14ceaaa82c3f16b0", func := "alidade/alidadelaw24.TruthStart", spec := "truthStart", inPlace := ["math/bits.Add64", "math/bits.Sub64"], named := ["math/bits.divideError", "math/bits.overflowError"], apart := false, narrowed := true }
def TruthStartUptoSaid : Prop := truthStartUptoRow.holds Try.pinned (OpenSpec.upto truthStartSpec)

/-- 'alidadelaw24.TruthNil', WHERE WHAT IT READS IS OF BULK AT MOST 1048576: true; the input reads as it did. -/
def truthNilUptoRow : OpenClaim := { program := "ytfpmmahonddpoaa", sum := "fc252c25398f9569124bb9a65fd0ecfe4fd894a52e12a04a14ceaaa82c3f16b0", func := "alidade/alidadelaw24.TruthNil", spec := "truthNil", inPlace := ["math/bits.Add64", "math/bits.Sub64"], named := ["math/bits.divideError", "math/bits.overflowError"], apart := false, narrowed := true }
def TruthNilUptoSaid : Prop := truthNilUptoRow.holds Try.pinned (OpenSpec.upto truthNilSpec)

/-- 'alidadelaw24.TruthClocks', WHERE WHAT IT READS IS OF BULK AT MOST 1048576: true; the input reads as it did. -/
def truthClocksUptoRow : OpenClaim := { program := "ytfpmmahonddpoaa", sum := "fc252c25398f9569124bb9a65fd0ecfe4fd894a52e12a04a14ceaaa82c3f16b0", func := "alidade/alidadelaw24.TruthClocks", spec := "truthClocks", inPlace := ["math/bits.Add64", "math/bits.Sub64"], named := ["math/bits.divideError", "math/bits.overflowError"], apart := false, narrowed := true }
def TruthClocksUptoSaid : Prop := truthClocksUptoRow.holds Try.pinned (OpenSpec.upto truthClocksSpec)

end Rows
end Go.Proofs.Ytfpmmahonddpoaa
