/-
  No cell of these rows narrows 'for every input' (looked for: loops, veiled, ifaces, maps, wideKeys, modest, calm, conditions, laid).
  DERIVED. THE GIVEN ROWS OF THIS SEAT. 3 by the template 'for every input the law returns true; each argument reads behind the call as it read before'; 0 by the template 'total and deterministic' (their statements: YtdljelmbjdjpjaaGreatTotals.lean).
  GIVEN WITH THE SEED: the statements are not yours to turn. If you find one false, say at which input.
  Laid BY PROGRAM, IN A SANDBOX (cutbox-rows.mjs): the forced cells as the released guide's own fill.sh prints them over the translation 7f8fa2449f824d43… (all of the seat's roots in one cut). By AI agents, Wed Nov 11 2026. No macro, syntax, notation, axiom, sorry.
-/
import Derived.Test.YtdljelmbjdjpjaaGreatChecked
import GoSem.Claim
import GoSem.ClaimJoined
import GoSem.ClaimMapViews
import Derived.JoinedTies
import Derived.KernelRfl
namespace Go.Proofs.YtdljelmbjdjpjaaGreat
/- THE CELL 'sum', in the pinned program and in every row, IS THE sha256 OF THE DUMP (.gsa) THAT YtdljelmbjdjpjaaGreatProg.lean LOADS. Nothing in Lean hashes anything: it is a label: what it is worth is what the hold of that sum in a sandbox is worth. -/
noncomputable def Tryz.pinned : Pinned := { name := "ytdljelmbjdjpjaagreat", sum := "7f8fa2449f824d43aea53d19719e9915a2e10bf0c350706ad5d41a3fa5de0c89", checked := Tryz.checked }
namespace Rows
def none {H : Type} : Left H := { results := [], args := [] }

/-- 'alidadelaw25.FleetDeaf': WHATEVER THE INPUT: true; the input reads as it did. -/
def fleetDeafSpec : ChangeSpec := { name := "fleetDeaf", fn := fun _ => fun
  | [d1, d2, d3, d4, d5] => { results := [.lit (.bool true)], args := [d1, d2, d3, d4, d5] }
  | _ => none }
def fleetDeafRow : OpenClaim := { program := "ytdljelmbjdjpjaagreat", sum := "7f8fa2449f824d43aea53d19719e9915a2e10bf0c350706ad5d41a3fa5de0c89", func := "alidade/alidadelaw25.FleetDeaf", spec := "fleetDeaf", inPlace := ["math/bits.Add64", "math/bits.Sub64"], unfollowed := true, recurses := true, named := ["math/bits.divideError", "math/bits.overflowError"], apart := false }
def FleetDeafSaid : Prop := fleetDeafRow.holds Tryz.pinned (OpenSpec.ofChange fleetDeafSpec)

/-- ITS FALSE NEIGHBOUR: 'it returns false'. Refute it at one input. -/
def fleetDeafWrong : ChangeSpec := { name := "fleetDeaf", fn := fun _ => fun
  | [d1, d2, d3, d4, d5] => { results := [.lit (.bool false)], args := [d1, d2, d3, d4, d5] }
  | _ => none }
def FleetDeafWrongFalsely : Prop := fleetDeafRow.holds Tryz.pinned (OpenSpec.ofChange fleetDeafWrong)

/-- 'alidadelaw25.FleetDrops': WHATEVER THE INPUT: true; the input reads as it did. -/
def fleetDropsSpec : ChangeSpec := { name := "fleetDrops", fn := fun _ => fun
  | [d1, d2, d3, d4, d5] => { results := [.lit (.bool true)], args := [d1, d2, d3, d4, d5] }
  | _ => none }
def fleetDropsRow : OpenClaim := { program := "ytdljelmbjdjpjaagreat", sum := "7f8fa2449f824d43aea53d19719e9915a2e10bf0c350706ad5d41a3fa5de0c89", func := "alidade/alidadelaw25.FleetDrops", spec := "fleetDrops", inPlace := ["math/bits.Add64", "math/bits.Sub64"], unfollowed := true, recurses := true, named := ["math/bits.divideError", "math/bits.overflowError"], apart := false }
def FleetDropsSaid : Prop := fleetDropsRow.holds Tryz.pinned (OpenSpec.ofChange fleetDropsSpec)

/-- ITS FALSE NEIGHBOUR: 'it returns false'. Refute it at one input. -/
def fleetDropsWrong : ChangeSpec := { name := "fleetDrops", fn := fun _ => fun
  | [d1, d2, d3, d4, d5] => { results := [.lit (.bool false)], args := [d1, d2, d3, d4, d5] }
  | _ => none }
def FleetDropsWrongFalsely : Prop := fleetDropsRow.holds Tryz.pinned (OpenSpec.ofChange fleetDropsWrong)

/-- 'alidadelaw25.FleetNil': WHATEVER THE INPUT: true; the input reads as it did. -/
def fleetNilSpec : ChangeSpec := { name := "fleetNil", fn := fun _ => fun
  | [d] => { results := [.lit (.bool true)], args := [d] }
  | _ => none }
def fleetNilRow : OpenClaim := { program := "ytdljelmbjdjpjaagreat", sum := "7f8fa2449f824d43aea53d19719e9915a2e10bf0c350706ad5d41a3fa5de0c89", func := "alidade/alidadelaw25.FleetNil", spec := "fleetNil", inPlace := ["math/bits.Add64", "math/bits.Sub64"], unfollowed := true, recurses := true, named := ["math/bits.divideError", "math/bits.overflowError"], apart := false }
def FleetNilSaid : Prop := fleetNilRow.holds Tryz.pinned (OpenSpec.ofChange fleetNilSpec)

/-- ITS FALSE NEIGHBOUR: 'it returns false'. Refute it at one input. -/
def fleetNilWrong : ChangeSpec := { name := "fleetNil", fn := fun _ => fun
  | [d] => { results := [.lit (.bool false)], args := [d] }
  | _ => none }
def FleetNilWrongFalsely : Prop := fleetNilRow.holds Tryz.pinned (OpenSpec.ofChange fleetNilWrong)

/- THE SECOND FORM. 'bulk': how many values and letters a reading holds, each counted each time it is reached (what is shared counts as often as it is met; a slice's spare places count too). A statement '..UptoSaid' is the law's where the arguments, and the package variables that the reading takes, are together of bulk at most 1048576: NARROWER than '..Said'. Prove '..Said' where nothing that the law and all that it calls make is longer than what came in: it says more and counts as full. Else prove '..UptoSaid'. A law counts once. -/
mutual
def uptoBulk {H : Type} : DataW H → Nat
  | .lit (.string bytes) => bytes.length + 1
  | .lit _ => 1
  | .nil => 1
  | .ptr d => uptoBulk d + 1
  | .slice elems spare => uptoBulkAll elems + uptoBulkAll spare + 1
  | .agg parts => uptoBulkAll parts + 1
  | .iface _ d => uptoBulk d + 1
  | .map entries => uptoBulkEntries entries + 1
  | .held _ => 1
def uptoBulkAll {H : Type} : List (DataW H) → Nat
  | [] => 0
  | d :: r => uptoBulk d + uptoBulkAll r
def uptoBulkEntries {H : Type} : List (Lit × DataW H) → Nat
  | [] => 0
  | x :: r => uptoBulkEntry x + uptoBulkEntries r
def uptoBulkEntry {H : Type} : Lit × DataW H → Nat
  | (.string bytes, d) => bytes.length + uptoBulk d + 1
  | (_, d) => uptoBulk d + 1
 end
def uptoSmall : (H : Type) → List (DataW H) → Bool := fun _ ds => decide (uptoBulkAll ds ≤ 1048576)
def OpenSpec.upto (s : _root_.Go.ChangeSpec) : _root_.Go.OpenSpec := { _root_.Go.OpenSpec.ofChange s with cond := some uptoSmall }

/-- 'alidadelaw25.FleetDeaf', WHERE WHAT IT READS IS OF BULK AT MOST 1048576: true; the input reads as it did. -/
def fleetDeafUptoRow : OpenClaim := { program := "ytdljelmbjdjpjaagreat", sum := "7f8fa2449f824d43aea53d19719e9915a2e10bf0c350706ad5d41a3fa5de0c89", func := "alidade/alidadelaw25.FleetDeaf", spec := "fleetDeaf", inPlace := ["math/bits.Add64", "math/bits.Sub64"], unfollowed := true, recurses := true, named := ["math/bits.divideError", "math/bits.overflowError"], apart := false, narrowed := true }
def FleetDeafUptoSaid : Prop := fleetDeafUptoRow.holds Tryz.pinned (OpenSpec.upto fleetDeafSpec)

/-- 'alidadelaw25.FleetDrops', WHERE WHAT IT READS IS OF BULK AT MOST 1048576: true; the input reads as it did. -/
def fleetDropsUptoRow : OpenClaim := { program := "ytdljelmbjdjpjaagreat", sum := "7f8fa2449f824d43aea53d19719e9915a2e10bf0c350706ad5d41a3fa5de0c89", func := "alidade/alidadelaw25.FleetDrops", spec := "fleetDrops", inPlace := ["math/bits.Add64", "math/bits.Sub64"], unfollowed := true, recurses := true, named := ["math/bits.divideError", "math/bits.overflowError"], apart := false, narrowed := true }
def FleetDropsUptoSaid : Prop := fleetDropsUptoRow.holds Tryz.pinned (OpenSpec.upto fleetDropsSpec)

/-- 'alidadelaw25.FleetNil', WHERE WHAT IT READS IS OF BULK AT MOST 1048576: true; the input reads as it did. -/
def fleetNilUptoRow : OpenClaim := { program := "ytdljelmbjdjpjaagreat", sum := "7f8fa2449f824d43aea53d19719e9915a2e10bf0c350706ad5d41a3fa5de0c89", func := "alidade/alidadelaw25.FleetNil", spec := "fleetNil", inPlace := ["math/bits.Add64", "math/bits.Sub64"], unfollowed := true, recurses := true, named := ["math/bits.divideError", "math/bits.overflowError"], apart := false, narrowed := true }
def FleetNilUptoSaid : Prop := fleetNilUptoRow.holds Tryz.pinned (OpenSpec.upto fleetNilSpec)

end Rows
end Go.Proofs.YtdljelmbjdjpjaaGreat
