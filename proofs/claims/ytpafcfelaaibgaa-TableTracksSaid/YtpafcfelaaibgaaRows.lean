/-
  No cell of these rows narrows 'for every input' (looked for: loops, veiled, ifaces, maps, wideKeys, modest, calm, conditions, laid).
  DERIVED. THE GIVEN ROWS OF THIS SEAT. 6 by the template 'for every input the law returns true; each argument reads behind the call as it read before'; 0 by the template 'total and deterministic' (their statements: YtpafcfelaaibgaaTotals.lean).
  GIVEN WITH THE SEED: the statements are not yours to turn. If you find one false, say at which input.
  Laid BY PROGRAM, IN A SANDBOX (cutbox-rows.mjs): the forced cells as the released guide's own fill.sh prints them over the translation 3aa5aee32e7b67fe… (all of the seat's roots in one cut). By AI agents, Wed Nov 11 2026. No macro, syntax, notation, axiom, sorry.
-/
import Derived.Test.YtpafcfelaaibgaaChecked
import GoSem.Claim
import GoSem.ClaimJoined
import GoSem.ClaimMapViews
import Derived.JoinedTies
import Derived.KernelRfl
namespace Go.Proofs.Ytpafcfelaaibgaa
/- THE CELL 'sum', in the pinned program and in every row, IS THE sha256 OF THE DUMP (.gsa) THAT YtpafcfelaaibgaaProg.lean LOADS. Nothing in Lean hashes anything: it is a label: what it is worth is what the hold of that sum in a sandbox is worth. -/
noncomputable def Try.pinned : Pinned := { name := "ytpafcfelaaibgaa", sum := "3aa5aee32e7b67fef1b7002a049b0bbd78c2c0231265c07e08db310ac5ef88cd", checked := Try.checked }
namespace Rows
def none {H : Type} : Left H := { results := [], args := [] }

/-- 'alidadelaw20.TableRoom': WHATEVER THE INPUT: true; the input reads as it did. -/
def tableRoomSpec : ChangeSpec := { name := "tableRoom", fn := fun _ => fun
  | [d1, d2] => { results := [.lit (.bool true)], args := [d1, d2] }
  | _ => none }
def tableRoomRow : OpenClaim := { program := "ytpafcfelaaibgaa", sum := "3aa5aee32e7b67fef1b7002a049b0bbd78c2c0231265c07e08db310ac5ef88cd", func := "alidade/alidadelaw20.TableRoom", spec := "tableRoom", unfollowed := true, recurses := true, plainKeys := false, apart := false }
def TableRoomSaid : Prop := tableRoomRow.holds Try.pinned (OpenSpec.ofChange tableRoomSpec)

/-- ITS FALSE NEIGHBOUR: 'it returns false'. Refute it at one input. -/
def tableRoomWrong : ChangeSpec := { name := "tableRoom", fn := fun _ => fun
  | [d1, d2] => { results := [.lit (.bool false)], args := [d1, d2] }
  | _ => none }
def TableRoomWrongFalsely : Prop := tableRoomRow.holds Try.pinned (OpenSpec.ofChange tableRoomWrong)

/-- 'alidadelaw20.TableSilent': WHATEVER THE INPUT: true; the input reads as it did. -/
def tableSilentSpec : ChangeSpec := { name := "tableSilent", fn := fun _ => fun
  | [d1, d2, d3] => { results := [.lit (.bool true)], args := [d1, d2, d3] }
  | _ => none }
def tableSilentRow : OpenClaim := { program := "ytpafcfelaaibgaa", sum := "3aa5aee32e7b67fef1b7002a049b0bbd78c2c0231265c07e08db310ac5ef88cd", func := "alidade/alidadelaw20.TableSilent", spec := "tableSilent", unfollowed := true, recurses := true, plainKeys := false, apart := false }
def TableSilentSaid : Prop := tableSilentRow.holds Try.pinned (OpenSpec.ofChange tableSilentSpec)

/-- ITS FALSE NEIGHBOUR: 'it returns false'. Refute it at one input. -/
def tableSilentWrong : ChangeSpec := { name := "tableSilent", fn := fun _ => fun
  | [d1, d2, d3] => { results := [.lit (.bool false)], args := [d1, d2, d3] }
  | _ => none }
def TableSilentWrongFalsely : Prop := tableSilentRow.holds Try.pinned (OpenSpec.ofChange tableSilentWrong)

/-- 'alidadelaw20.TableLeaves': WHATEVER THE INPUT: true; the input reads as it did. -/
def tableLeavesSpec : ChangeSpec := { name := "tableLeaves", fn := fun _ => fun
  | [d1, d2, d3] => { results := [.lit (.bool true)], args := [d1, d2, d3] }
  | _ => none }
def tableLeavesRow : OpenClaim := { program := "ytpafcfelaaibgaa", sum := "3aa5aee32e7b67fef1b7002a049b0bbd78c2c0231265c07e08db310ac5ef88cd", func := "alidade/alidadelaw20.TableLeaves", spec := "tableLeaves", unfollowed := true, recurses := true, plainKeys := false, apart := false }
def TableLeavesSaid : Prop := tableLeavesRow.holds Try.pinned (OpenSpec.ofChange tableLeavesSpec)

/-- ITS FALSE NEIGHBOUR: 'it returns false'. Refute it at one input. -/
def tableLeavesWrong : ChangeSpec := { name := "tableLeaves", fn := fun _ => fun
  | [d1, d2, d3] => { results := [.lit (.bool false)], args := [d1, d2, d3] }
  | _ => none }
def TableLeavesWrongFalsely : Prop := tableLeavesRow.holds Try.pinned (OpenSpec.ofChange tableLeavesWrong)

/-- 'alidadelaw20.TableOnce': WHATEVER THE INPUT: true; the input reads as it did. -/
def tableOnceSpec : ChangeSpec := { name := "tableOnce", fn := fun _ => fun
  | [d1, d2] => { results := [.lit (.bool true)], args := [d1, d2] }
  | _ => none }
def tableOnceRow : OpenClaim := { program := "ytpafcfelaaibgaa", sum := "3aa5aee32e7b67fef1b7002a049b0bbd78c2c0231265c07e08db310ac5ef88cd", func := "alidade/alidadelaw20.TableOnce", spec := "tableOnce", unfollowed := true, recurses := true, plainKeys := false, apart := false }
def TableOnceSaid : Prop := tableOnceRow.holds Try.pinned (OpenSpec.ofChange tableOnceSpec)

/-- ITS FALSE NEIGHBOUR: 'it returns false'. Refute it at one input. -/
def tableOnceWrong : ChangeSpec := { name := "tableOnce", fn := fun _ => fun
  | [d1, d2] => { results := [.lit (.bool false)], args := [d1, d2] }
  | _ => none }
def TableOnceWrongFalsely : Prop := tableOnceRow.holds Try.pinned (OpenSpec.ofChange tableOnceWrong)

/-- 'alidadelaw20.TableTracks': WHATEVER THE INPUT: true; the input reads as it did. -/
def tableTracksSpec : ChangeSpec := { name := "tableTracks", fn := fun _ => fun
  | [d1, d2, d3] => { results := [.lit (.bool true)], args := [d1, d2, d3] }
  | _ => none }
def tableTracksRow : OpenClaim := { program := "ytpafcfelaaibgaa", sum := "3aa5aee32e7b67fef1b7002a049b0bbd78c2c0231265c07e08db310ac5ef88cd", func := "alidade/alidadelaw20.TableTracks", spec := "tableTracks", inPlace := ["math/bits.Add64", "math/bits.Sub64"], unfollowed := true, recurses := true, plainKeys := false, apart := false }
def TableTracksSaid : Prop := tableTracksRow.holds Try.pinned (OpenSpec.ofChange tableTracksSpec)

/-- ITS FALSE NEIGHBOUR: 'it returns false'. Refute it at one input. -/
def tableTracksWrong : ChangeSpec := { name := "tableTracks", fn := fun _ => fun
  | [d1, d2, d3] => { results := [.lit (.bool false)], args := [d1, d2, d3] }
  | _ => none }
def TableTracksWrongFalsely : Prop := tableTracksRow.holds Try.pinned (OpenSpec.ofChange tableTracksWrong)

/-- 'alidadelaw20.TableNil': WHATEVER THE INPUT: true; the input reads as it did. -/
def tableNilSpec : ChangeSpec := { name := "tableNil", fn := fun _ => fun
  | [d1, d2, d3] => { results := [.lit (.bool true)], args := [d1, d2, d3] }
  | _ => none }
def tableNilRow : OpenClaim := { program := "ytpafcfelaaibgaa", sum := "3aa5aee32e7b67fef1b7002a049b0bbd78c2c0231265c07e08db310ac5ef88cd", func := "alidade/alidadelaw20.TableNil", spec := "tableNil", inPlace := ["math/bits.Add64", "math/bits.Sub64"], unfollowed := true, recurses := true, plainKeys := false, apart := false }
def TableNilSaid : Prop := tableNilRow.holds Try.pinned (OpenSpec.ofChange tableNilSpec)

/-- ITS FALSE NEIGHBOUR: 'it returns false'. Refute it at one input. -/
def tableNilWrong : ChangeSpec := { name := "tableNil", fn := fun _ => fun
  | [d1, d2, d3] => { results := [.lit (.bool false)], args := [d1, d2, d3] }
  | _ => none }
def TableNilWrongFalsely : Prop := tableNilRow.holds Try.pinned (OpenSpec.ofChange tableNilWrong)

/- THE SECOND FORM. 'bulk': how many values and letters a reading holds, each counted each time it is reached (what is shared counts as often as it is met; a slice's spare places count too). A statement '..UptoSaid' is the law's where the arguments, and the package variables that the reading takes, are together of bulk at most 1048576: NARROWER than '..Said'. Prove '..Said' where nothing that the law and all that it calls make is longer than what came in: it says more and counts as full. Else prove '..UptoSaid'. A law counts once. -/
mutual
def uptoBulk {H : Type} : DataW H → Nat
  | .lit (.string bytes) => bytes.length + 1
  | .lit _ => 1
  | .nil => 1
  | .ptr d => uptoBulk d + 1
  | .slice elems spare => uptoBulkAll elems + uptoBulkAll spare + 1
  | .agg parts => uptoBulkAll parts + 1
  | .iface _ d => uptoBulk d + 1
  | .map entries => uptoBulkEntries entries + 1
  | .held _ => 1
def uptoBulkAll {H : Type} : List (DataW H) → Nat
  | [] => 0
  | d :: r => uptoBulk d + uptoBulkAll r
def uptoBulkEntries {H : Type} : List (Lit × DataW H) → Nat
  | [] => 0
  | x :: r => uptoBulkEntry x + uptoBulkEntries r
def uptoBulkEntry {H : Type} : Lit × DataW H → Nat
  | (.string bytes, d) => bytes.length + uptoBulk d + 1
  | (_, d) => uptoBulk d + 1
 end
def uptoSmall : (H : Type) → List (DataW H) → Bool := fun _ ds => decide (uptoBulkAll ds ≤ 1048576)
def OpenSpec.upto (s : _root_.Go.ChangeSpec) : _root_.Go.OpenSpec := { _root_.Go.OpenSpec.ofChange s with cond := some uptoSmall }

/-- 'alidadelaw20.TableRoom', WHERE WHAT IT READS IS OF BULK AT MOST 1048576: true; the input reads as it did. -/
def tableRoomUptoRow : OpenClaim := { program := "ytpafcfelaaibgaa", sum := "3aa5aee32e7b67fef1b7002a049b0bbd78c2c0231265c07e08db310ac5ef88cd", func := "alidade/alidadelaw20.TableRoom", spec := "tableRoom", unfollowed := true, recurses := true, plainKeys := false, apart := false, narrowed := true }
def TableRoomUptoSaid : Prop := tableRoomUptoRow.holds Try.pinned (OpenSpec.upto tableRoomSpec)

/-- 'alidadelaw20.TableSilent', WHERE WHAT IT READS IS OF BULK AT MOST 1048576: true; the input reads as it did. -/
def tableSilentUptoRow : OpenClaim := { program := "ytpafcfelaaibgaa", sum := "3aa5aee32e7b67fef1b7002a049b0bbd78c2c0231265c07e08db310ac5ef88cd", func := "alidade/alidadelaw20.TableSilent", spec := "tableSilent", unfollowed := true, recurses := true, plainKeys := false, apart := false, narrowed := true }
def TableSilentUptoSaid : Prop := tableSilentUptoRow.holds Try.pinned (OpenSpec.upto tableSilentSpec)

/-- 'alidadelaw20.TableLeaves', WHERE WHAT IT READS IS OF BULK AT MOST 1048576: true; the input reads as it did. -/
def tableLeavesUptoRow : OpenClaim := { program := "ytpafcfelaaibgaa", sum := "3aa5aee32e7b67fef1b7002a049b0bbd78c2c0231265c07e08db310ac5ef88cd", func := "alidade/alidadelaw20.TableLeaves", spec := "tableLeaves", unfollowed := true, recurses := true, plainKeys := false, apart := false, narrowed := true }
def TableLeavesUptoSaid : Prop := tableLeavesUptoRow.holds Try.pinned (OpenSpec.upto tableLeavesSpec)

/-- 'alidadelaw20.TableOnce', WHERE WHAT IT READS IS OF BULK AT MOST 1048576: true; the input reads as it did. -/
def tableOnceUptoRow : OpenClaim := { program := "ytpafcfelaaibgaa", sum := "3aa5aee32e7b67fef1b7002a049b0bbd78c2c0231265c07e08db310ac5ef88cd", func := "alidade/alidadelaw20.TableOnce", spec := "tableOnce", unfollowed := true, recurses := true, plainKeys := false, apart := false, narrowed := true }
def TableOnceUptoSaid : Prop := tableOnceUptoRow.holds Try.pinned (OpenSpec.upto tableOnceSpec)

/-- 'alidadelaw20.TableTracks', WHERE WHAT IT READS IS OF BULK AT MOST 1048576: true; the input reads as it did. -/
def tableTracksUptoRow : OpenClaim := { program := "ytpafcfelaaibgaa", sum := "3aa5aee32e7b67fef1b7002a049b0bbd78c2c0231265c07e08db310ac5ef88cd", func := "alidade/alidadelaw20.TableTracks", spec := "tableTracks", inPlace := ["math/bits.Add64", "math/bits.Sub64"], unfollowed := true, recurses := true, plainKeys := false, apart := false, narrowed := true }
def TableTracksUptoSaid : Prop := tableTracksUptoRow.holds Try.pinned (OpenSpec.upto tableTracksSpec)

/-- 'alidadelaw20.TableNil', WHERE WHAT IT READS IS OF BULK AT MOST 1048576: true; the input reads as it did. -/
def tableNilUptoRow : OpenClaim := { program := "ytpafcfelaaibgaa", sum := "3aa5aee32e7b67fef1b7002a049b0bbd78c2c0231265c07e08db310ac5ef88cd", func := "alidade/alidadelaw20.TableNil", spec := "tableNil", inPlace := ["math/bits.Add64", "math/bits.Sub64"], unfollowed := true, recurses := true, plainKeys := false, apart := false, narrowed := true }
def TableNilUptoSaid : Prop := tableNilUptoRow.holds Try.pinned (OpenSpec.upto tableNilSpec)

end Rows
end Go.Proofs.Ytpafcfelaaibgaa
