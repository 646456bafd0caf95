/-
  No cell of these rows narrows 'for every input' (looked for: loops, veiled, ifaces, maps, wideKeys, modest, calm, conditions, laid).
  DERIVED. THE GIVEN ROWS OF THIS SEAT. 4 by the template 'for every input the law returns true; each argument reads behind the call as it read before'; 0 by the template 'total and deterministic' (their statements: YtphilonmniidmaaTotals.lean).
  GIVEN WITH THE SEED: the statements are not yours to turn. If you find one false, say at which input.
  Laid BY PROGRAM, IN A SANDBOX (cutbox-rows.mjs): the forced cells as the released guide's own fill.sh prints them over the translation 287b54e8a440af47… (all of the seat's roots in one cut). By AI agents, Wed Nov 11 2026. No macro, syntax, notation, axiom, sorry.
-/
import Derived.Test.YtphilonmniidmaaChecked
import GoSem.Claim
import GoSem.ClaimJoined
import GoSem.ClaimMapViews
import Derived.JoinedTies
import Derived.KernelRfl
namespace Go.Proofs.Ytphilonmniidmaa
/- THE CELL 'sum', in the pinned program and in every row, IS THE sha256 OF THE DUMP (.gsa) THAT YtphilonmniidmaaProg.lean LOADS. Nothing in Lean hashes anything: it is a label: what it is worth is what the hold of that sum in a sandbox is worth. -/
noncomputable def Try.pinned : Pinned := { name := "ytphilonmniidmaa", sum := "287b54e8a440af4734815a19aca1d0a2f2e1a7f9d7a18c1f51183f8f76a99cd7", checked := Try.checked }
namespace Rows
def none {H : Type} : Left H := { results := [], args := [] }

/-- 'alidadelaw21.GossipTurns': WHATEVER THE INPUT: true; the input reads as it did. -/
def gossipTurnsSpec : ChangeSpec := { name := "gossipTurns", fn := fun _ => fun
  | [d1, d2] => { results := [.lit (.bool true)], args := [d1, d2] }
  | _ => none }
def gossipTurnsRow : OpenClaim := { program := "ytphilonmniidmaa", sum := "287b54e8a440af4734815a19aca1d0a2f2e1a7f9d7a18c1f51183f8f76a99cd7", func := "alidade/alidadelaw21.GossipTurns", spec := "gossipTurns", apart := false }
def GossipTurnsSaid : Prop := gossipTurnsRow.holds Try.pinned (OpenSpec.ofChange gossipTurnsSpec)

/-- ITS FALSE NEIGHBOUR: 'it returns false'. Refute it at one input. -/
def gossipTurnsWrong : ChangeSpec := { name := "gossipTurns", fn := fun _ => fun
  | [d1, d2] => { results := [.lit (.bool false)], args := [d1, d2] }
  | _ => none }
def GossipTurnsWrongFalsely : Prop := gossipTurnsRow.holds Try.pinned (OpenSpec.ofChange gossipTurnsWrong)

/-- 'alidadelaw21.GossipTells': WHATEVER THE INPUT: true; the input reads as it did. -/
def gossipTellsSpec : ChangeSpec := { name := "gossipTells", fn := fun _ => fun
  | [d1, d2] => { results := [.lit (.bool true)], args := [d1, d2] }
  | _ => none }
def gossipTellsRow : OpenClaim := { program := "ytphilonmniidmaa", sum := "287b54e8a440af4734815a19aca1d0a2f2e1a7f9d7a18c1f51183f8f76a99cd7", func := "alidade/alidadelaw21.GossipTells", spec := "gossipTells", apart := false }
def GossipTellsSaid : Prop := gossipTellsRow.holds Try.pinned (OpenSpec.ofChange gossipTellsSpec)

/-- ITS FALSE NEIGHBOUR: 'it returns false'. Refute it at one input. -/
def gossipTellsWrong : ChangeSpec := { name := "gossipTells", fn := fun _ => fun
  | [d1, d2] => { results := [.lit (.bool false)], args := [d1, d2] }
  | _ => none }
def GossipTellsWrongFalsely : Prop := gossipTellsRow.holds Try.pinned (OpenSpec.ofChange gossipTellsWrong)

/-- 'alidadelaw21.GossipFresh': WHATEVER THE INPUT: true; the input reads as it did. -/
def gossipFreshSpec : ChangeSpec := { name := "gossipFresh", fn := fun _ => fun
  | [d1, d2, d3, d4] => { results := [.lit (.bool true)], args := [d1, d2, d3, d4] }
  | _ => none }
def gossipFreshRow : OpenClaim := { program := "ytphilonmniidmaa", sum := "287b54e8a440af4734815a19aca1d0a2f2e1a7f9d7a18c1f51183f8f76a99cd7", func := "alidade/alidadelaw21.GossipFresh", spec := "gossipFresh", apart := false }
def GossipFreshSaid : Prop := gossipFreshRow.holds Try.pinned (OpenSpec.ofChange gossipFreshSpec)

/-- ITS FALSE NEIGHBOUR: 'it returns false'. Refute it at one input. -/
def gossipFreshWrong : ChangeSpec := { name := "gossipFresh", fn := fun _ => fun
  | [d1, d2, d3, d4] => { results := [.lit (.bool false)], args := [d1, d2, d3, d4] }
  | _ => none }
def GossipFreshWrongFalsely : Prop := gossipFreshRow.holds Try.pinned (OpenSpec.ofChange gossipFreshWrong)

/-- 'alidadelaw21.GossipForms': WHATEVER THE INPUT: true; the input reads as it did. -/
def gossipFormsSpec : ChangeSpec := { name := "gossipForms", fn := fun _ => fun
  | [d1, d2, d3, d4, d5, d6, d7] => { results := [.lit (.bool true)], args := [d1, d2, d3, d4, d5, d6, d7] }
  | _ => none }
def gossipFormsRow : OpenClaim := { program := "ytphilonmniidmaa", sum := "287b54e8a440af4734815a19aca1d0a2f2e1a7f9d7a18c1f51183f8f76a99cd7", func := "alidade/alidadelaw21.GossipForms", spec := "gossipForms", apart := false }
def GossipFormsSaid : Prop := gossipFormsRow.holds Try.pinned (OpenSpec.ofChange gossipFormsSpec)

/-- ITS FALSE NEIGHBOUR: 'it returns false'. Refute it at one input. -/
def gossipFormsWrong : ChangeSpec := { name := "gossipForms", fn := fun _ => fun
  | [d1, d2, d3, d4, d5, d6, d7] => { results := [.lit (.bool false)], args := [d1, d2, d3, d4, d5, d6, d7] }
  | _ => none }
def GossipFormsWrongFalsely : Prop := gossipFormsRow.holds Try.pinned (OpenSpec.ofChange gossipFormsWrong)

/- THE SECOND FORM. 'bulk': how many values and letters a reading holds, each counted each time it is reached (what is shared counts as often as it is met; a slice's spare places count too). A statement '..UptoSaid' is the law's where the arguments, and the package variables that the reading takes, are together of bulk at most 1048576: NARROWER than '..Said'. Prove '..Said' where nothing that the law and all that it calls make is longer than what came in: it says more and counts as full. Else prove '..UptoSaid'. A law counts once. -/
mutual
def uptoBulk {H : Type} : DataW H → Nat
  | .lit (.string bytes) => bytes.length + 1
  | .lit _ => 1
  | .nil => 1
  | .ptr d => uptoBulk d + 1
  | .slice elems spare => uptoBulkAll elems + uptoBulkAll spare + 1
  | .agg parts => uptoBulkAll parts + 1
  | .iface _ d => uptoBulk d + 1
  | .map entries => uptoBulkEntries entries + 1
  | .held _ => 1
def uptoBulkAll {H : Type} : List (DataW H) → Nat
  | [] => 0
  | d :: r => uptoBulk d + uptoBulkAll r
def uptoBulkEntries {H : Type} : List (Lit × DataW H) → Nat
  | [] => 0
  | x :: r => uptoBulkEntry x + uptoBulkEntries r
def uptoBulkEntry {H : Type} : Lit × DataW H → Nat
  | (.string bytes, d) => bytes.length + uptoBulk d + 1
  | (_, d) => uptoBulk d + 1
 end
def uptoSmall : (H : Type) → List (DataW H) → Bool := fun _ ds => decide (uptoBulkAll ds ≤ 1048576)
def OpenSpec.upto (s : _root_.Go.ChangeSpec) : _root_.Go.OpenSpec := { _root_.Go.OpenSpec.ofChange s with cond := some uptoSmall }

/-- 'alidadelaw21.GossipTurns', WHERE WHAT IT READS IS OF BULK AT MOST 1048576: true; the input reads as it did. -/
def gossipTurnsUptoRow : OpenClaim := { program := "ytphilonmniidmaa", sum := "287b54e8a440af4734815a19aca1d0a2f2e1a7f9d7a18c1f51183f8f76a99cd7", func := "alidade/alidadelaw21.GossipTurns", spec := "gossipTurns", apart := false, narrowed := true }
def GossipTurnsUptoSaid : Prop := gossipTurnsUptoRow.holds Try.pinned (OpenSpec.upto gossipTurnsSpec)

/-- 'alidadelaw21.GossipTells', WHERE WHAT IT READS IS OF BULK AT MOST 1048576: true; the input reads as it did. -/
def gossipTellsUptoRow : OpenClaim := { program := "ytphilonmniidmaa", sum := "287b54e8a440af4734815a19aca1d0a2f2e1a7f9d7a18c1f51183f8f76a99cd7", func := "alidade/alidadelaw21.GossipTells", spec := "gossipTells", apart := false, narrowed := true }
def GossipTellsUptoSaid : Prop := gossipTellsUptoRow.holds Try.pinned (OpenSpec.upto gossipTellsSpec)

/-- 'alidadelaw21.GossipFresh', WHERE WHAT IT READS IS OF BULK AT MOST 1048576: true; the input reads as it did. -/
def gossipFreshUptoRow : OpenClaim := { program := "ytphilonmniidmaa", sum := "287b54e8a440af4734815a19aca1d0a2f2e1a7f9d7a18c1f51183f8f76a99cd7", func := "alidade/alidadelaw21.GossipFresh", spec := "gossipFresh", apart := false, narrowed := true }
def GossipFreshUptoSaid : Prop := gossipFreshUptoRow.holds Try.pinned (OpenSpec.upto gossipFreshSpec)

/-- 'alidadelaw21.GossipForms', WHERE WHAT IT READS IS OF BULK AT MOST 1048576: true; the input reads as it did. -/
def gossipFormsUptoRow : OpenClaim := { program := "ytphilonmniidmaa", sum := "287b54e8a440af4734815a19aca1d0a2f2e1a7f9d7a18c1f51183f8f76a99cd7", func := "alidade/alidadelaw21.GossipForms", spec := "gossipForms", apart := false, narrowed := true }
def GossipFormsUptoSaid : Prop := gossipFormsUptoRow.holds Try.pinned (OpenSpec.upto gossipFormsSpec)

end Rows
end Go.Proofs.Ytphilonmniidmaa
