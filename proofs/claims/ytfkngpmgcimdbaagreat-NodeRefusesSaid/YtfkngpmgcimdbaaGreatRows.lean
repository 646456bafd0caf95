/-
  No cell of these rows narrows 'for every input' (looked for: loops, veiled, ifaces, maps, wideKeys, modest, calm, conditions, laid).
  DERIVED. THE GIVEN ROWS OF THIS SEAT. 3 by the template 'for every input the law returns true; each argument reads behind the call as it read before'; 0 by the template 'total and deterministic' (their statements: YtfkngpmgcimdbaaGreatTotals.lean).
  GIVEN WITH THE SEED: the statements are not yours to turn. If you find one false, say at which input.
  Laid BY PROGRAM, IN A SANDBOX (cutbox-rows.mjs): the forced cells as the released guide's own fill.sh prints them over the translation 674e250764093579… (all of the seat's roots in one cut). By AI agents, Wed Nov 11 2026. No macro, syntax, notation, axiom, sorry.
-/
import Derived.Test.YtfkngpmgcimdbaaGreatChecked
import GoSem.Claim
import GoSem.ClaimJoined
import GoSem.ClaimMapViews
import Derived.JoinedTies
import Derived.KernelRfl
namespace Go.Proofs.YtfkngpmgcimdbaaGreat
/- THE CELL 'sum', in the pinned program and in every row, IS THE sha256 OF THE DUMP (.gsa) THAT YtfkngpmgcimdbaaGreatProg.lean LOADS. Nothing in Lean hashes anything: it is a label: what it is worth is what the hold of that sum in a sandbox is worth. -/
noncomputable def Tryz.pinned : Pinned := { name := "ytfkngpmgcimdbaagreat", sum := "674e2507640935793fcc1c24de30ad6613c76df0456fc4ccaf2141d17082b4da", checked := Tryz.checked }
namespace Rows
def none {H : Type} : Left H := { results := [], args := [] }

/-- 'alidadelaw22.NodeSends': WHATEVER THE INPUT: true; the input reads as it did. -/
def nodeSendsSpec : ChangeSpec := { name := "nodeSends", fn := fun _ => fun
  | [d1, d2, d3, d4] => { results := [.lit (.bool true)], args := [d1, d2, d3, d4] }
  | _ => none }
def nodeSendsRow : OpenClaim := { program := "ytfkngpmgcimdbaagreat", sum := "674e2507640935793fcc1c24de30ad6613c76df0456fc4ccaf2141d17082b4da", func := "alidade/alidadelaw22.NodeSends", spec := "nodeSends", inPlace := ["math/bits.Add64", "math/bits.Sub64"], unfollowed := true, recurses := true, named := ["math/bits.divideError", "math/bits.overflowError"], apart := false }
def NodeSendsSaid : Prop := nodeSendsRow.holds Tryz.pinned (OpenSpec.ofChange nodeSendsSpec)

/-- ITS FALSE NEIGHBOUR: 'it returns false'. Refute it at one input. -/
def nodeSendsWrong : ChangeSpec := { name := "nodeSends", fn := fun _ => fun
  | [d1, d2, d3, d4] => { results := [.lit (.bool false)], args := [d1, d2, d3, d4] }
  | _ => none }
def NodeSendsWrongFalsely : Prop := nodeSendsRow.holds Tryz.pinned (OpenSpec.ofChange nodeSendsWrong)

/-- 'alidadelaw22.NodeRefuses': WHATEVER THE INPUT: true; the input reads as it did. -/
def nodeRefusesSpec : ChangeSpec := { name := "nodeRefuses", fn := fun _ => fun
  | [d1, d2, d3] => { results := [.lit (.bool true)], args := [d1, d2, d3] }
  | _ => none }
def nodeRefusesRow : OpenClaim := { program := "ytfkngpmgcimdbaagreat", sum := "674e2507640935793fcc1c24de30ad6613c76df0456fc4ccaf2141d17082b4da", func := "alidade/alidadelaw22.NodeRefuses", spec := "nodeRefuses", inPlace := ["math/bits.Add64", "math/bits.Sub64"], unfollowed := true, recurses := true, named := ["math/bits.divideError", "math/bits.overflowError"], apart := false }
def NodeRefusesSaid : Prop := nodeRefusesRow.holds Tryz.pinned (OpenSpec.ofChange nodeRefusesSpec)

/-- ITS FALSE NEIGHBOUR: 'it returns false'. Refute it at one input. -/
def nodeRefusesWrong : ChangeSpec := { name := "nodeRefuses", fn := fun _ => fun
  | [d1, d2, d3] => { results := [.lit (.bool false)], args := [d1, d2, d3] }
  | _ => none }
def NodeRefusesWrongFalsely : Prop := nodeRefusesRow.holds Tryz.pinned (OpenSpec.ofChange nodeRefusesWrong)

/-- 'alidadelaw22.NodeRanges': WHATEVER THE INPUT: true; the input reads as it did. -/
def nodeRangesSpec : ChangeSpec := { name := "nodeRanges", fn := fun _ => fun
  | [d1, d2, d3, d4, d5] => { results := [.lit (.bool true)], args := [d1, d2, d3, d4, d5] }
  | _ => none }
def nodeRangesRow : OpenClaim := { program := "ytfkngpmgcimdbaagreat", sum := "674e2507640935793fcc1c24de30ad6613c76df0456fc4ccaf2141d17082b4da", func := "alidade/alidadelaw22.NodeRanges", spec := "nodeRanges", inPlace := ["math/bits.Add64", "math/bits.Sub64"], unfollowed := true, recurses := true, named := ["math/bits.divideError", "math/bits.overflowError"], apart := false }
def NodeRangesSaid : Prop := nodeRangesRow.holds Tryz.pinned (OpenSpec.ofChange nodeRangesSpec)

/-- ITS FALSE NEIGHBOUR: 'it returns false'. Refute it at one input. -/
def nodeRangesWrong : ChangeSpec := { name := "nodeRanges", fn := fun _ => fun
  | [d1, d2, d3, d4, d5] => { results := [.lit (.bool false)], args := [d1, d2, d3, d4, d5] }
  | _ => none }
def NodeRangesWrongFalsely : Prop := nodeRangesRow.holds Tryz.pinned (OpenSpec.ofChange nodeRangesWrong)

/- THE SECOND FORM. 'bulk': how many values and letters a reading holds, each counted each time it is reached (what is shared counts as often as it is met; a slice's spare places count too). A statement '..UptoSaid' is the law's where the arguments, and the package variables that the reading takes, are together of bulk at most 1048576: NARROWER than '..Said'. Prove '..Said' where nothing that the law and all that it calls make is longer than what came in: it says more and counts as full. Else prove '..UptoSaid'. A law counts once. -/
mutual
def uptoBulk {H : Type} : DataW H → Nat
  | .lit (.string bytes) => bytes.length + 1
  | .lit _ => 1
  | .nil => 1
  | .ptr d => uptoBulk d + 1
  | .slice elems spare => uptoBulkAll elems + uptoBulkAll spare + 1
  | .agg parts => uptoBulkAll parts + 1
  | .iface _ d => uptoBulk d + 1
  | .map entries => uptoBulkEntries entries + 1
  | .held _ => 1
def uptoBulkAll {H : Type} : List (DataW H) → Nat
  | [] => 0
  | d :: r => uptoBulk d + uptoBulkAll r
def uptoBulkEntries {H : Type} : List (Lit × DataW H) → Nat
  | [] => 0
  | x :: r => uptoBulkEntry x + uptoBulkEntries r
def uptoBulkEntry {H : Type} : Lit × DataW H → Nat
  | (.string bytes, d) => bytes.length + uptoBulk d + 1
  | (_, d) => uptoBulk d + 1
 end
def uptoSmall : (H : Type) → List (DataW H) → Bool := fun _ ds => decide (uptoBulkAll ds ≤ 1048576)
def OpenSpec.upto (s : _root_.Go.ChangeSpec) : _root_.Go.OpenSpec := { _root_.Go.OpenSpec.ofChange s with cond := some uptoSmall }

/-- 'alidadelaw22.NodeSends', WHERE WHAT IT READS IS OF BULK AT MOST 1048576: true; the input reads as it did. -/
def nodeSendsUptoRow : OpenClaim := { program := "ytfkngpmgcimdbaagreat", sum := "674e2507640935793fcc1c24de30ad6613c76df0456fc4ccaf2141d17082b4da", func := "alidade/alidadelaw22.NodeSends", spec := "nodeSends", inPlace := ["math/bits.Add64", "math/bits.Sub64"], unfollowed := true, recurses := true, named := ["math/bits.divideError", "math/bits.overflowError"], apart := false, narrowed := true }
def NodeSendsUptoSaid : Prop := nodeSendsUptoRow.holds Tryz.pinned (OpenSpec.upto nodeSendsSpec)

/-- 'alidadelaw22.NodeRefuses', WHERE WHAT IT READS IS OF BULK AT MOST 1048576: true; the input reads as it did. -/
def nodeRefusesUptoRow : OpenClaim := { program := "ytfkngpmgcimdbaagreat", sum := "674e2507640935793fcc1c24de30ad6613c76df0456fc4ccaf2141d17082b4da", func := "alidade/alidadelaw22.NodeRefuses", spec := "nodeRefuses", inPlace := ["math/bits.Add64", "math/bits.Sub64"], unfollowed := true, recurses := true, named := ["math/bits.divideError", "math/bits.overflowError"], apart := false, narrowed := true }
def NodeRefusesUptoSaid : Prop := nodeRefusesUptoRow.holds Tryz.pinned (OpenSpec.upto nodeRefusesSpec)

/-- 'alidadelaw22.NodeRanges', WHERE WHAT IT READS IS OF BULK AT MOST 1048576: true; the input reads as it did. -/
def nodeRangesUptoRow : OpenClaim := { program := "ytfkngpmgcimdbaagreat", sum := "674e2507640935793fcc1c24de30ad6613c76df0456fc4ccaf2141d17082b4da", func := "alidade/alidadelaw22.NodeRanges", spec := "nodeRanges", inPlace := ["math/bits.Add64", "math/bits.Sub64"], unfollowed := true, recurses := true, named := ["math/bits.divideError", "math/bits.overflowError"], apart := false, narrowed := true }
def NodeRangesUptoSaid : Prop := nodeRangesUptoRow.holds Tryz.pinned (OpenSpec.upto nodeRangesSpec)

end Rows
end Go.Proofs.YtfkngpmgcimdbaaGreat
