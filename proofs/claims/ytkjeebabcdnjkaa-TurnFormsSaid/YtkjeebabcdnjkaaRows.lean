/-
  No cell of these rows narrows 'for every input' (looked for: loops, veiled, ifaces, maps, wideKeys, modest, calm, conditions, laid).
  DERIVED. THE GIVEN ROWS OF THIS SEAT. 6 by the template 'for every input the law returns true; each argument reads behind the call as it read before'; 0 by the template 'total and deterministic' (their statements: YtkjeebabcdnjkaaTotals.lean).
  GIVEN WITH THE SEED: the statements are not yours to turn. If you find one false, say at which input.
  Laid BY PROGRAM, IN A SANDBOX (cutbox-rows.mjs): the forced cells as the released guide's own fill.sh prints them over the translation be4fb54c1aa7e88e… (all of the seat's roots in one cut). By AI agents, Wed Nov 11 2026. No macro, syntax, notation, axiom, sorry.
-/
import Derived.Test.YtkjeebabcdnjkaaChecked
import GoSem.Claim
import GoSem.ClaimJoined
import GoSem.ClaimMapViews
import Derived.JoinedTies
import Derived.KernelRfl
namespace Go.Proofs.Ytkjeebabcdnjkaa
/- THE CELL 'sum', in the pinned program and in every row, IS THE sha256 OF THE DUMP (.gsa) THAT YtkjeebabcdnjkaaProg.lean LOADS. Nothing in Lean hashes anything: it is a label: what it is worth is what the hold of that sum in a sandbox is worth. -/
noncomputable def Try.pinned : Pinned := { name := "ytkjeebabcdnjkaa", sum := "be4fb54c1aa7e88ed244204438d57bb29db74e6fb2391dbbd1aac66791d96667", checked := Try.checked }
namespace Rows
def none {H : Type} : Left H := { results := [], args := [] }

/-- 'alidadelaw9.TurnParts': WHATEVER THE INPUT: true; the input reads as it did. -/
def turnPartsSpec : ChangeSpec := { name := "turnParts", fn := fun _ => fun
  | [d1, d2, d3] => { results := [.lit (.bool true)], args := [d1, d2, d3] }
  | _ => none }
def turnPartsRow : OpenClaim := { program := "ytkjeebabcdnjkaa", sum := "be4fb54c1aa7e88ed244204438d57bb29db74e6fb2391dbbd1aac66791d96667", func := "alidade/alidadelaw9.TurnParts", spec := "turnParts", apart := false }
def TurnPartsSaid : Prop := turnPartsRow.holds Try.pinned (OpenSpec.ofChange turnPartsSpec)

/-- ITS FALSE NEIGHBOUR: 'it returns false'. Refute it at one input. -/
def turnPartsWrong : ChangeSpec := { name := "turnParts", fn := fun _ => fun
  | [d1, d2, d3] => { results := [.lit (.bool false)], args := [d1, d2, d3] }
  | _ => none }
def TurnPartsWrongFalsely : Prop := turnPartsRow.holds Try.pinned (OpenSpec.ofChange turnPartsWrong)

/-- 'alidadelaw9.TurnTo': WHATEVER THE INPUT: true; the input reads as it did. -/
def turnToSpec : ChangeSpec := { name := "turnTo", fn := fun _ => fun
  | [d1, d2, d3] => { results := [.lit (.bool true)], args := [d1, d2, d3] }
  | _ => none }
def turnToRow : OpenClaim := { program := "ytkjeebabcdnjkaa", sum := "be4fb54c1aa7e88ed244204438d57bb29db74e6fb2391dbbd1aac66791d96667", func := "alidade/alidadelaw9.TurnTo", spec := "turnTo", apart := false }
def TurnToSaid : Prop := turnToRow.holds Try.pinned (OpenSpec.ofChange turnToSpec)

/-- ITS FALSE NEIGHBOUR: 'it returns false'. Refute it at one input. -/
def turnToWrong : ChangeSpec := { name := "turnTo", fn := fun _ => fun
  | [d1, d2, d3] => { results := [.lit (.bool false)], args := [d1, d2, d3] }
  | _ => none }
def TurnToWrongFalsely : Prop := turnToRow.holds Try.pinned (OpenSpec.ofChange turnToWrong)

/-- 'alidadelaw9.TurnPath': WHATEVER THE INPUT: true; the input reads as it did. -/
def turnPathSpec : ChangeSpec := { name := "turnPath", fn := fun _ => fun
  | [d1, d2, d3] => { results := [.lit (.bool true)], args := [d1, d2, d3] }
  | _ => none }
def turnPathRow : OpenClaim := { program := "ytkjeebabcdnjkaa", sum := "be4fb54c1aa7e88ed244204438d57bb29db74e6fb2391dbbd1aac66791d96667", func := "alidade/alidadelaw9.TurnPath", spec := "turnPath", apart := false }
def TurnPathSaid : Prop := turnPathRow.holds Try.pinned (OpenSpec.ofChange turnPathSpec)

/-- ITS FALSE NEIGHBOUR: 'it returns false'. Refute it at one input. -/
def turnPathWrong : ChangeSpec := { name := "turnPath", fn := fun _ => fun
  | [d1, d2, d3] => { results := [.lit (.bool false)], args := [d1, d2, d3] }
  | _ => none }
def TurnPathWrongFalsely : Prop := turnPathRow.holds Try.pinned (OpenSpec.ofChange turnPathWrong)

/-- 'alidadelaw9.TurnTriangle': WHATEVER THE INPUT: true; the input reads as it did. -/
def turnTriangleSpec : ChangeSpec := { name := "turnTriangle", fn := fun _ => fun
  | [d1, d2, d3] => { results := [.lit (.bool true)], args := [d1, d2, d3] }
  | _ => none }
def turnTriangleRow : OpenClaim := { program := "ytkjeebabcdnjkaa", sum := "be4fb54c1aa7e88ed244204438d57bb29db74e6fb2391dbbd1aac66791d96667", func := "alidade/alidadelaw9.TurnTriangle", spec := "turnTriangle", inPlace := ["math/bits.Add64", "math/bits.Sub64"], named := ["math/bits.divideError", "math/bits.overflowError"], apart := false }
def TurnTriangleSaid : Prop := turnTriangleRow.holds Try.pinned (OpenSpec.ofChange turnTriangleSpec)

/-- ITS FALSE NEIGHBOUR: 'it returns false'. Refute it at one input. -/
def turnTriangleWrong : ChangeSpec := { name := "turnTriangle", fn := fun _ => fun
  | [d1, d2, d3] => { results := [.lit (.bool false)], args := [d1, d2, d3] }
  | _ => none }
def TurnTriangleWrongFalsely : Prop := turnTriangleRow.holds Try.pinned (OpenSpec.ofChange turnTriangleWrong)

/-- 'alidadelaw9.TurnGroup': WHATEVER THE INPUT: true; the input reads as it did. -/
def turnGroupSpec : ChangeSpec := { name := "turnGroup", fn := fun _ => fun
  | [d1, d2, d3, d4] => { results := [.lit (.bool true)], args := [d1, d2, d3, d4] }
  | _ => none }
def turnGroupRow : OpenClaim := { program := "ytkjeebabcdnjkaa", sum := "be4fb54c1aa7e88ed244204438d57bb29db74e6fb2391dbbd1aac66791d96667", func := "alidade/alidadelaw9.TurnGroup", spec := "turnGroup", inPlace := ["math/bits.Add64", "math/bits.Sub64"], named := ["math/bits.divideError", "math/bits.overflowError"], apart := false }
def TurnGroupSaid : Prop := turnGroupRow.holds Try.pinned (OpenSpec.ofChange turnGroupSpec)

/-- ITS FALSE NEIGHBOUR: 'it returns false'. Refute it at one input. -/
def turnGroupWrong : ChangeSpec := { name := "turnGroup", fn := fun _ => fun
  | [d1, d2, d3, d4] => { results := [.lit (.bool false)], args := [d1, d2, d3, d4] }
  | _ => none }
def TurnGroupWrongFalsely : Prop := turnGroupRow.holds Try.pinned (OpenSpec.ofChange turnGroupWrong)

/-- 'alidadelaw9.TurnForms': WHATEVER THE INPUT: true; the input reads as it did. -/
def turnFormsSpec : ChangeSpec := { name := "turnForms", fn := fun _ => fun
  | [d1, d2, d3, d4] => { results := [.lit (.bool true)], args := [d1, d2, d3, d4] }
  | _ => none }
def turnFormsRow : OpenClaim := { program := "ytkjeebabcdnjkaa", sum := "be4fb54c1aa7e88ed244204438d57bb29db74e6fb2391dbbd1aac66791d96667", func := "alidade/alidadelaw9.TurnForms", spec := "turnForms", inPlace := ["math/bits.Add64", "math/bits.Sub64"], named := ["math/bits.divideError", "math/bits.overflowError"], apart := false }
def TurnFormsSaid : Prop := turnFormsRow.holds Try.pinned (OpenSpec.ofChange turnFormsSpec)

/-- ITS FALSE NEIGHBOUR: 'it returns false'. Refute it at one input. -/
def turnFormsWrong : ChangeSpec := { name := "turnForms", fn := fun _ => fun
  | [d1, d2, d3, d4] => { results := [.lit (.bool false)], args := [d1, d2, d3, d4] }
  | _ => none }
def TurnFormsWrongFalsely : Prop := turnFormsRow.holds Try.pinned (OpenSpec.ofChange turnFormsWrong)

/- THE SECOND FORM. 'bulk': how many values and letters a reading holds, each counted each time it is reached (what is shared counts as often as it is met; a slice's spare places count too). A statement '..UptoSaid' is the law's where the arguments, and the package variables that the reading takes, are together of bulk at most 1048576: NARROWER than '..Said'. Prove '..Said' where nothing that the law and all that it calls make is longer than what came in: it says more and counts as full. Else prove '..UptoSaid'. A law counts once. -/
mutual
def uptoBulk {H : Type} : DataW H → Nat
  | .lit (.string bytes) => bytes.length + 1
  | .lit _ => 1
  | .nil => 1
  | .ptr d => uptoBulk d + 1
  | .slice elems spare => uptoBulkAll elems + uptoBulkAll spare + 1
  | .agg parts => uptoBulkAll parts + 1
  | .iface _ d => uptoBulk d + 1
  | .map entries => uptoBulkEntries entries + 1
  | .held _ => 1
def uptoBulkAll {H : Type} : List (DataW H) → Nat
  | [] => 0
  | d :: r => uptoBulk d + uptoBulkAll r
def uptoBulkEntries {H : Type} : List (Lit × DataW H) → Nat
  | [] => 0
  | x :: r => uptoBulkEntry x + uptoBulkEntries r
def uptoBulkEntry {H : Type} : Lit × DataW H → Nat
  | (.string bytes, d) => bytes.length + uptoBulk d + 1
  | (_, d) => uptoBulk d + 1
 end
def uptoSmall : (H : Type) → List (DataW H) → Bool := fun _ ds => decide (uptoBulkAll ds ≤ 1048576)
def OpenSpec.upto (s : _root_.Go.ChangeSpec) : _root_.Go.OpenSpec := { _root_.Go.OpenSpec.ofChange s with cond := some uptoSmall }

/-- 'alidadelaw9.TurnParts', WHERE WHAT IT READS IS OF BULK AT MOST 1048576: true; the input reads as it did. -/
def turnPartsUptoRow : OpenClaim := { program := "ytkjeebabcdnjkaa", sum := "be4fb54c1aa7e88ed244204438d57bb29db74e6fb2391dbbd1aac66791d96667", func := "alidade/alidadelaw9.TurnParts", spec := "turnParts", apart := false, narrowed := true }
def TurnPartsUptoSaid : Prop := turnPartsUptoRow.holds Try.pinned (OpenSpec.upto turnPartsSpec)

/-- 'alidadelaw9.TurnTo', WHERE WHAT IT READS IS OF BULK AT MOST 1048576: true; the input reads as it did. -/
def turnToUptoRow : OpenClaim := { program := "ytkjeebabcdnjkaa", sum := "be4fb54c1aa7e88ed244204438d57bb29db74e6fb2391dbbd1aac66791d96667", func := "alidade/alidadelaw9.TurnTo", spec := "turnTo", apart := false, narrowed := true }
def TurnToUptoSaid : Prop := turnToUptoRow.holds Try.pinned (OpenSpec.upto turnToSpec)

/-- 'alidadelaw9.TurnPath', WHERE WHAT IT READS IS OF BULK AT MOST 1048576: true; the input reads as it did. -/
def turnPathUptoRow : OpenClaim := { program := "ytkjeebabcdnjkaa", sum := "be4fb54c1aa7e88ed244204438d57bb29db74e6fb2391dbbd1aac66791d96667", func := "alidade/alidadelaw9.TurnPath", spec := "turnPath", apart := false, narrowed := true }
def TurnPathUptoSaid : Prop := turnPathUptoRow.holds Try.pinned (OpenSpec.upto turnPathSpec)

/-- 'alidadelaw9.TurnTriangle', WHERE WHAT IT READS IS OF BULK AT MOST 1048576: true; the input reads as it did. -/
def turnTriangleUptoRow : OpenClaim := { program := "ytkjeebabcdnjkaa", sum := "be4fb54c1aa7e88ed244204438d57bb29db74e6fb2391dbbd1aac66791d96667", func := "alidade/alidadelaw9.TurnTriangle", spec := "turnTriangle", inPlace := ["math/bits.Add64", "math/bits.Sub64"], named := ["math/bits.divideError", "math/bits.overflowError"], apart := false, narrowed := true }
def TurnTriangleUptoSaid : Prop := turnTriangleUptoRow.holds Try.pinned (OpenSpec.upto turnTriangleSpec)

/-- 'alidadelaw9.TurnGroup', WHERE WHAT IT READS IS OF BULK AT MOST 1048576: true; the input reads as it did. -/
def turnGroupUptoRow : OpenClaim := { program := "ytkjeebabcdnjkaa", sum := "be4fb54c1aa7e88ed244204438d57bb29db74e6fb2391dbbd1aac66791d96667", func := "alidade/alidadelaw9.TurnGroup", spec := "turnGroup", inPlace := ["math/bits.Add64", "math/bits.Sub64"], named := ["math/bits.divideError", "math/bits.overflowError"], apart := false, narrowed := true }
def TurnGroupUptoSaid : Prop := turnGroupUptoRow.holds Try.pinned (OpenSpec.upto turnGroupSpec)

/-- 'alidadelaw9.TurnForms', WHERE WHAT IT READS IS OF BULK AT MOST 1048576: true; the input reads as it did. -/
def turnFormsUptoRow : OpenClaim := { program := "ytkjeebabcdnjkaa", sum := "be4fb54c1aa7e88ed244204438d57bb29db74e6fb2391dbbd1aac66791d96667", func := "alidade/alidadelaw9.TurnForms", spec := "turnForms", inPlace := ["math/bits.Add64", "math/bits.Sub64"], named := ["math/bits.divideError", "math/bits.overflowError"], apart := false, narrowed := true }
def TurnFormsUptoSaid : Prop := turnFormsUptoRow.holds Try.pinned (OpenSpec.upto turnFormsSpec)

end Rows
end Go.Proofs.Ytkjeebabcdnjkaa
