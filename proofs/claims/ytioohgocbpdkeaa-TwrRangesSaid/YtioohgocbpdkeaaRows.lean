/-
  No cell of these rows narrows 'for every input' (looked for: loops, veiled, ifaces, maps, wideKeys, modest, calm, conditions, laid).
  DERIVED. THE GIVEN ROWS OF THIS SEAT. 10 by the template 'for every input the law returns true; each argument reads behind the call as it read before'; 0 by the template 'total and deterministic' (their statements: YtioohgocbpdkeaaTotals.lean).
  GIVEN WITH THE SEED: the statements are not yours to turn. If you find one false, say at which input.
  Laid BY PROGRAM, IN A SANDBOX (cutbox-rows.mjs): the forced cells as the released guide's own fill.sh prints them over the translation 43e4d394cd28c6ee… (all of the seat's roots in one cut). By AI agents, Wed Nov 11 2026. No macro, syntax, notation, axiom, sorry.
-/
import Derived.Test.YtioohgocbpdkeaaChecked
import GoSem.Claim
import GoSem.ClaimJoined
import GoSem.ClaimMapViews
import Derived.JoinedTies
import Derived.KernelRfl
namespace Go.Proofs.Ytioohgocbpdkeaa
/- THE CELL 'sum', in the pinned program and in every row, IS THE sha256 OF THE DUMP (.gsa) THAT YtioohgocbpdkeaaProg.lean LOADS. Nothing in Lean hashes anything: it is a label: what it is worth is what the hold of that sum in a sandbox is worth. -/
noncomputable def Try.pinned : Pinned := { name := "ytioohgocbpdkeaa", sum := "43e4d394cd28c6ee42a1347e0802ef4548a022a46860b3ab82a3c0bd97560a20", checked := Try.checked }
namespace Rows
def none {H : Type} : Left H := { results := [], args := [] }

/-- 'alidadelaw14.ClockRises': WHATEVER THE INPUT: true; the input reads as it did. -/
def clockRisesSpec : ChangeSpec := { name := "clockRises", fn := fun _ => fun
  | [d1, d2, d3, d4] => { results := [.lit (.bool true)], args := [d1, d2, d3, d4] }
  | _ => none }
def clockRisesRow : OpenClaim := { program := "ytioohgocbpdkeaa", sum := "43e4d394cd28c6ee42a1347e0802ef4548a022a46860b3ab82a3c0bd97560a20", func := "alidade/alidadelaw14.ClockRises", spec := "clockRises", inPlace := ["math/bits.Add64", "math/bits.Sub64"], named := ["math/bits.divideError", "math/bits.overflowError"], apart := false }
def ClockRisesSaid : Prop := clockRisesRow.holds Try.pinned (OpenSpec.ofChange clockRisesSpec)

/-- ITS FALSE NEIGHBOUR: 'it returns false'. Refute it at one input. -/
def clockRisesWrong : ChangeSpec := { name := "clockRises", fn := fun _ => fun
  | [d1, d2, d3, d4] => { results := [.lit (.bool false)], args := [d1, d2, d3, d4] }
  | _ => none }
def ClockRisesWrongFalsely : Prop := clockRisesRow.holds Try.pinned (OpenSpec.ofChange clockRisesWrong)

/-- 'alidadelaw14.ClockWider': WHATEVER THE INPUT: true; the input reads as it did. -/
def clockWiderSpec : ChangeSpec := { name := "clockWider", fn := fun _ => fun
  | [d1, d2, d3, d4] => { results := [.lit (.bool true)], args := [d1, d2, d3, d4] }
  | _ => none }
def clockWiderRow : OpenClaim := { program := "ytioohgocbpdkeaa", sum := "43e4d394cd28c6ee42a1347e0802ef4548a022a46860b3ab82a3c0bd97560a20", func := "alidade/alidadelaw14.ClockWider", spec := "clockWider", inPlace := ["math/bits.Add64", "math/bits.Sub64"], named := ["math/bits.divideError", "math/bits.overflowError"], apart := false }
def ClockWiderSaid : Prop := clockWiderRow.holds Try.pinned (OpenSpec.ofChange clockWiderSpec)

/-- ITS FALSE NEIGHBOUR: 'it returns false'. Refute it at one input. -/
def clockWiderWrong : ChangeSpec := { name := "clockWider", fn := fun _ => fun
  | [d1, d2, d3, d4] => { results := [.lit (.bool false)], args := [d1, d2, d3, d4] }
  | _ => none }
def ClockWiderWrongFalsely : Prop := clockWiderRow.holds Try.pinned (OpenSpec.ofChange clockWiderWrong)

/-- 'alidadelaw14.ClockForms': WHATEVER THE INPUT: true; the input reads as it did. -/
def clockFormsSpec : ChangeSpec := { name := "clockForms", fn := fun _ => fun
  | [d1, d2, d3, d4, d5, d6] => { results := [.lit (.bool true)], args := [d1, d2, d3, d4, d5, d6] }
  | _ => none }
def clockFormsRow : OpenClaim := { program := "ytioohgocbpdkeaa", sum := "43e4d394cd28c6ee42a1347e0802ef4548a022a46860b3ab82a3c0bd97560a20", func := "alidade/alidadelaw14.ClockForms", spec := "clockForms", inPlace := ["math/bits.Add64", "math/bits.Sub64"], named := ["math/bits.divideError", "math/bits.overflowError"], apart := false }
def ClockFormsSaid : Prop := clockFormsRow.holds Try.pinned (OpenSpec.ofChange clockFormsSpec)

/-- ITS FALSE NEIGHBOUR: 'it returns false'. Refute it at one input. -/
def clockFormsWrong : ChangeSpec := { name := "clockForms", fn := fun _ => fun
  | [d1, d2, d3, d4, d5, d6] => { results := [.lit (.bool false)], args := [d1, d2, d3, d4, d5, d6] }
  | _ => none }
def ClockFormsWrongFalsely : Prop := clockFormsRow.holds Try.pinned (OpenSpec.ofChange clockFormsWrong)

/-- 'alidadelaw14.ClockSpans': WHATEVER THE INPUT: true; the input reads as it did. -/
def clockSpansSpec : ChangeSpec := { name := "clockSpans", fn := fun _ => fun
  | [d1, d2, d3, d4, d5] => { results := [.lit (.bool true)], args := [d1, d2, d3, d4, d5] }
  | _ => none }
def clockSpansRow : OpenClaim := { program := "ytioohgocbpdkeaa", sum := "43e4d394cd28c6ee42a1347e0802ef4548a022a46860b3ab82a3c0bd97560a20", func := "alidade/alidadelaw14.ClockSpans", spec := "clockSpans", inPlace := ["math/bits.Add64", "math/bits.Sub64"], named := ["math/bits.divideError", "math/bits.overflowError"], apart := false }
def ClockSpansSaid : Prop := clockSpansRow.holds Try.pinned (OpenSpec.ofChange clockSpansSpec)

/-- ITS FALSE NEIGHBOUR: 'it returns false'. Refute it at one input. -/
def clockSpansWrong : ChangeSpec := { name := "clockSpans", fn := fun _ => fun
  | [d1, d2, d3, d4, d5] => { results := [.lit (.bool false)], args := [d1, d2, d3, d4, d5] }
  | _ => none }
def ClockSpansWrongFalsely : Prop := clockSpansRow.holds Try.pinned (OpenSpec.ofChange clockSpansWrong)

/-- 'alidadelaw15.TwrRanges': WHATEVER THE INPUT: true; the input reads as it did. -/
def twrRangesSpec : ChangeSpec := { name := "twrRanges", fn := fun _ => fun
  | [d1, d2, d3] => { results := [.lit (.bool true)], args := [d1, d2, d3] }
  | _ => none }
def twrRangesRow : OpenClaim := { program := "ytioohgocbpdkeaa", sum := "43e4d394cd28c6ee42a1347e0802ef4548a022a46860b3ab82a3c0bd97560a20", func := "alidade/alidadelaw15.TwrRanges", spec := "twrRanges", inPlace := ["math/bits.Add64", "math/bits.Sub64"], named := ["math/bits.divideError", "math/bits.overflowError"], apart := false }
def TwrRangesSaid : Prop := twrRangesRow.holds Try.pinned (OpenSpec.ofChange twrRangesSpec)

/-- ITS FALSE NEIGHBOUR: 'it returns false'. Refute it at one input. -/
def twrRangesWrong : ChangeSpec := { name := "twrRanges", fn := fun _ => fun
  | [d1, d2, d3] => { results := [.lit (.bool false)], args := [d1, d2, d3] }
  | _ => none }
def TwrRangesWrongFalsely : Prop := twrRangesRow.holds Try.pinned (OpenSpec.ofChange twrRangesWrong)

/-- 'alidadelaw15.TwrSlacks': WHATEVER THE INPUT: true; the input reads as it did. -/
def twrSlacksSpec : ChangeSpec := { name := "twrSlacks", fn := fun _ => fun
  | [d1, d2, d3, d4, d5] => { results := [.lit (.bool true)], args := [d1, d2, d3, d4, d5] }
  | _ => none }
def twrSlacksRow : OpenClaim := { program := "ytioohgocbpdkeaa", sum := "43e4d394cd28c6ee42a1347e0802ef4548a022a46860b3ab82a3c0bd97560a20", func := "alidade/alidadelaw15.TwrSlacks", spec := "twrSlacks", inPlace := ["math/bits.Add64", "math/bits.Sub64"], named := ["math/bits.divideError", "math/bits.overflowError"], apart := false }
def TwrSlacksSaid : Prop := twrSlacksRow.holds Try.pinned (OpenSpec.ofChange twrSlacksSpec)

/-- ITS FALSE NEIGHBOUR: 'it returns false'. Refute it at one input. -/
def twrSlacksWrong : ChangeSpec := { name := "twrSlacks", fn := fun _ => fun
  | [d1, d2, d3, d4, d5] => { results := [.lit (.bool false)], args := [d1, d2, d3, d4, d5] }
  | _ => none }
def TwrSlacksWrongFalsely : Prop := twrSlacksRow.holds Try.pinned (OpenSpec.ofChange twrSlacksWrong)

/-- 'alidadelaw15.TwrNil': WHATEVER THE INPUT: true; the input reads as it did. -/
def twrNilSpec : ChangeSpec := { name := "twrNil", fn := fun _ => fun
  | [d] => { results := [.lit (.bool true)], args := [d] }
  | _ => none }
def twrNilRow : OpenClaim := { program := "ytioohgocbpdkeaa", sum := "43e4d394cd28c6ee42a1347e0802ef4548a022a46860b3ab82a3c0bd97560a20", func := "alidade/alidadelaw15.TwrNil", spec := "twrNil", inPlace := ["math/bits.Add64", "math/bits.Sub64"], named := ["math/bits.divideError", "math/bits.overflowError"], apart := false }
def TwrNilSaid : Prop := twrNilRow.holds Try.pinned (OpenSpec.ofChange twrNilSpec)

/-- ITS FALSE NEIGHBOUR: 'it returns false'. Refute it at one input. -/
def twrNilWrong : ChangeSpec := { name := "twrNil", fn := fun _ => fun
  | [d] => { results := [.lit (.bool false)], args := [d] }
  | _ => none }
def TwrNilWrongFalsely : Prop := twrNilRow.holds Try.pinned (OpenSpec.ofChange twrNilWrong)

/-- 'alidadelaw15.TwrSessions': WHATEVER THE INPUT: true; the input reads as it did. -/
def twrSessionsSpec : ChangeSpec := { name := "twrSessions", fn := fun _ => fun
  | [d] => { results := [.lit (.bool true)], args := [d] }
  | _ => none }
def twrSessionsRow : OpenClaim := { program := "ytioohgocbpdkeaa", sum := "43e4d394cd28c6ee42a1347e0802ef4548a022a46860b3ab82a3c0bd97560a20", func := "alidade/alidadelaw15.TwrSessions", spec := "twrSessions", inPlace := ["math/bits.Add64", "math/bits.Sub64"], named := ["math/bits.divideError", "math/bits.overflowError"], apart := false }
def TwrSessionsSaid : Prop := twrSessionsRow.holds Try.pinned (OpenSpec.ofChange twrSessionsSpec)

/-- ITS FALSE NEIGHBOUR: 'it returns false'. Refute it at one input. -/
def twrSessionsWrong : ChangeSpec := { name := "twrSessions", fn := fun _ => fun
  | [d] => { results := [.lit (.bool false)], args := [d] }
  | _ => none }
def TwrSessionsWrongFalsely : Prop := twrSessionsRow.holds Try.pinned (OpenSpec.ofChange twrSessionsWrong)

/-- 'alidadelaw15.TwrMarks': WHATEVER THE INPUT: true; the input reads as it did. -/
def twrMarksSpec : ChangeSpec := { name := "twrMarks", fn := fun _ => fun
  | [d1, d2, d3] => { results := [.lit (.bool true)], args := [d1, d2, d3] }
  | _ => none }
def twrMarksRow : OpenClaim := { program := "ytioohgocbpdkeaa", sum := "43e4d394cd28c6ee42a1347e0802ef4548a022a46860b3ab82a3c0bd97560a20", func := "alidade/alidadelaw15.TwrMarks", spec := "twrMarks", inPlace := ["math/bits.Add64", "math/bits.Sub64"], named := ["math/bits.divideError", "math/bits.overflowError"], apart := false }
def TwrMarksSaid : Prop := twrMarksRow.holds Try.pinned (OpenSpec.ofChange twrMarksSpec)

/-- ITS FALSE NEIGHBOUR: 'it returns false'. Refute it at one input. -/
def twrMarksWrong : ChangeSpec := { name := "twrMarks", fn := fun _ => fun
  | [d1, d2, d3] => { results := [.lit (.bool false)], args := [d1, d2, d3] }
  | _ => none }
def TwrMarksWrongFalsely : Prop := twrMarksRow.holds Try.pinned (OpenSpec.ofChange twrMarksWrong)

/-- 'alidadelaw15.TwrHolds': WHATEVER THE INPUT: true; the input reads as it did. -/
def twrHoldsSpec : ChangeSpec := { name := "twrHolds", fn := fun _ => fun
  | [d] => { results := [.lit (.bool true)], args := [d] }
  | _ => none }
def twrHoldsRow : OpenClaim := { program := "ytioohgocbpdkeaa", sum := "43e4d394cd28c6ee42a1347e0802ef4548a022a46860b3ab82a3c0bd97560a20", func := "alidade/alidadelaw15.TwrHolds", spec := "twrHolds", inPlace := ["math/bits.Add64", "math/bits.Sub64"], unfollowed := true, recurses := true, named := ["math/bits.divideError", "math/bits.overflowError"], apart := false }
def TwrHoldsSaid : Prop := twrHoldsRow.holds Try.pinned (OpenSpec.ofChange twrHoldsSpec)

/-- ITS FALSE NEIGHBOUR: 'it returns false'. Refute it at one input. -/
def twrHoldsWrong : ChangeSpec := { name := "twrHolds", fn := fun _ => fun
  | [d] => { results := [.lit (.bool false)], args := [d] }
  | _ => none }
def TwrHoldsWrongFalsely : Prop := twrHoldsRow.holds Try.pinned (OpenSpec.ofChange twrHoldsWrong)

/- THE SECOND FORM. 'bulk': how many values and letters a reading holds, each counted each time it is reached (what is shared counts as often as it is met; a slice's spare places count too). A statement '..UptoSaid' is the law's where the arguments, and the package variables that the reading takes, are together of bulk at most 1048576: NARROWER than '..Said'. Prove '..Said' where nothing that the law and all that it calls make is longer than what came in: it says more and counts as full. Else prove '..UptoSaid'. A law counts once. -/
mutual
def uptoBulk {H : Type} : DataW H → Nat
  | .lit (.string bytes) => bytes.length + 1
  | .lit _ => 1
  | .nil => 1
  | .ptr d => uptoBulk d + 1
  | .slice elems spare => uptoBulkAll elems + uptoBulkAll spare + 1
  | .agg parts => uptoBulkAll parts + 1
  | .iface _ d => uptoBulk d + 1
  | .map entries => uptoBulkEntries entries + 1
  | .held _ => 1
def uptoBulkAll {H : Type} : List (DataW H) → Nat
  | [] => 0
  | d :: r => uptoBulk d + uptoBulkAll r
def uptoBulkEntries {H : Type} : List (Lit × DataW H) → Nat
  | [] => 0
  | x :: r => uptoBulkEntry x + uptoBulkEntries r
def uptoBulkEntry {H : Type} : Lit × DataW H → Nat
  | (.string bytes, d) => bytes.length + uptoBulk d + 1
  | (_, d) => uptoBulk d + 1
 end
def uptoSmall : (H : Type) → List (DataW H) → Bool := fun _ ds => decide (uptoBulkAll ds ≤ 1048576)
def OpenSpec.upto (s : _root_.Go.ChangeSpec) : _root_.Go.OpenSpec := { _root_.Go.OpenSpec.ofChange s with cond := some uptoSmall }

/-- 'alidadelaw14.ClockRises', WHERE WHAT IT READS IS OF BULK AT MOST 1048576: true; the input reads as it did. -/
def clockRisesUptoRow : OpenClaim := { program := "ytioohgocbpdkeaa", sum := "43e4d394cd28c6ee42a1347e0802ef4548a022a46860b3ab82a3c0bd97560a20", func := "alidade/alidadelaw14.ClockRises", spec := "clockRises", inPlace := ["math/bits.Add64", "math/bits.Sub64"], named := ["math/bits.divideError", "math/bits.overflowError"], apart := false, narrowed := true }
def ClockRisesUptoSaid : Prop := clockRisesUptoRow.holds Try.pinned (OpenSpec.upto clockRisesSpec)

/-- 'alidadelaw14.ClockWider', WHERE WHAT IT READS IS OF BULK AT MOST 1048576: true; the input reads as it did. -/
def clockWiderUptoRow : OpenClaim := { program := "ytioohgocbpdkeaa", sum := "43e4d394cd28c6ee42a1347e0802ef4548a022a46860b3ab82a3c0bd97560a20", func := "alidade/alidadelaw14.ClockWider", spec := "clockWider", inPlace := ["math/bits.Add64", "math/bits.Sub64"], named := ["math/bits.divideError", "math/bits.overflowError"], apart := false, narrowed := true }
def ClockWiderUptoSaid : Prop := clockWiderUptoRow.holds Try.pinned (OpenSpec.upto clockWiderSpec)

/-- 'alidadelaw14.ClockForms', WHERE WHAT IT READS IS OF BULK AT MOST 1048576: true; the input reads as it did. -/
def clockFormsUptoRow : OpenClaim := { program := "ytioohgocbpdkeaa", sum := "43e4d394cd28c6ee42a1347e0802ef4548a022a46860b3ab82a3c0bd97560a20", func := "alidade/alidadelaw14.ClockForms", spec := "clockForms", inPlace := ["math/bits.Add64", "math/bits.Sub64"], named := ["math/bits.divideError", "math/bits.overflowError"], apart := false, narrowed := true }
def ClockFormsUptoSaid : Prop := clockFormsUptoRow.holds Try.pinned (OpenSpec.upto clockFormsSpec)

/-- 'alidadelaw14.ClockSpans', WHERE WHAT IT READS IS OF BULK AT MOST 1048576: true; the input reads as it did. -/
def clockSpansUptoRow : OpenClaim := { program := "ytioohgocbpdkeaa", sum := "43e4d394cd28c6ee42a1347e0802ef4548a022a46860b3ab82a3c0bd97560a20", func := "alidade/alidadelaw14.ClockSpans", spec := "clockSpans", inPlace := ["math/bits.Add64", "math/bits.Sub64"], named := ["math/bits.divideError", "math/bits.overflowError"], apart := false, narrowed := true }
def ClockSpansUptoSaid : Prop := clockSpansUptoRow.holds Try.pinned (OpenSpec.upto clockSpansSpec)

/-- 'alidadelaw15.TwrRanges', WHERE WHAT IT READS IS OF BULK AT MOST 1048576: true; the input reads as it did. -/
def twrRangesUptoRow : OpenClaim := { program := "ytioohgocbpdkeaa", sum := "43e4d394cd28c6ee42a1347e0802ef4548a022a46860b3ab82a3c0bd97560a20", func := "alidade/alidadelaw15.TwrRanges", spec := "twrRanges", inPlace := ["math/bits.Add64", "math/bits.Sub64"], named := ["math/bits.divideError", "math/bits.overflowError"], apart := false, narrowed := true }
def TwrRangesUptoSaid : Prop := twrRangesUptoRow.holds Try.pinned (OpenSpec.upto twrRangesSpec)

/-- 'alidadelaw15.TwrSlacks', WHERE WHAT IT READS IS OF BULK AT MOST 1048576: true; the input reads as it did. -/
def twrSlacksUptoRow : OpenClaim := { program := "ytioohgocbpdkeaa", sum := "43e4d394cd28c6ee42a1347e0802ef4548a022a46860b3ab82a3c0bd97560a20", func := "alidade/alidadelaw15.TwrSlacks", spec := "twrSlacks", inPlace := ["math/bits.Add64", "math/bits.Sub64"], named := ["math/bits.divideError", "math/bits.overflowError"], apart := false, narrowed := true }
def TwrSlacksUptoSaid : Prop := twrSlacksUptoRow.holds Try.pinned (OpenSpec.upto twrSlacksSpec)

/-- 'alidadelaw15.TwrNil', WHERE WHAT IT READS IS OF BULK AT MOST 1048576: true; the input reads as it did. -/
def twrNilUptoRow : OpenClaim := { program := "ytioohgocbpdkeaa", sum := "43e4d394cd28c6ee42a1347e0802ef4548a022a46860b3ab82a3c0bd97560a20", func := "alidade/alidadelaw15.TwrNil", spec := "twrNil", inPlace := ["math/bits.Add64", "math/bits.Sub64"], named := ["math/bits.divideError", "math/bits.overflowError"], apart := false, narrowed := true }
def TwrNilUptoSaid : Prop := twrNilUptoRow.holds Try.pinned (OpenSpec.upto twrNilSpec)

/-- 'alidadelaw15.TwrSessions', WHERE WHAT IT READS IS OF BULK AT MOST 1048576: true; the input reads as it did. -/
def twrSessionsUptoRow : OpenClaim := { program := "ytioohgocbpdkeaa", sum := "43e4d394cd28c6ee42a1347e0802ef4548a022a46860b3ab82a3c0bd97560a20", func := "alidade/alidadelaw15.TwrSessions", spec := "twrSessions", inPlace := ["math/bits.Add64", "math/bits.Sub64"], named := ["math/bits.divideError", "math/bits.overflowError"], apart := false, narrowed := true }
def TwrSessionsUptoSaid : Prop := twrSessionsUptoRow.holds Try.pinned (OpenSpec.upto twrSessionsSpec)

/-- 'alidadelaw15.TwrMarks', WHERE WHAT IT READS IS OF BULK AT MOST 1048576: true; the input reads as it did. -/
def twrMarksUptoRow : OpenClaim := { program := "ytioohgocbpdkeaa", sum := "43e4d394cd28c6ee42a1347e0802ef4548a022a46860b3ab82a3c0bd97560a20", func := "alidade/alidadelaw15.TwrMarks", spec := "twrMarks", inPlace := ["math/bits.Add64", "math/bits.Sub64"], named := ["math/bits.divideError", "math/bits.overflowError"], apart := false, narrowed := true }
def TwrMarksUptoSaid : Prop := twrMarksUptoRow.holds Try.pinned (OpenSpec.upto twrMarksSpec)

/-- 'alidadelaw15.TwrHolds', WHERE WHAT IT READS IS OF BULK AT MOST 1048576: true; the input reads as it did. -/
def twrHoldsUptoRow : OpenClaim := { program := "ytioohgocbpdkeaa", sum := "43e4d394cd28c6ee42a1347e0802ef4548a022a46860b3ab82a3c0bd97560a20", func := "alidade/alidadelaw15.TwrHolds", spec := "twrHolds", inPlace := ["math/bits.Add64", "math/bits.Sub64"], unfollowed := true, recurses := true, named := ["math/bits.divideError", "math/bits.overflowError"], apart := false, narrowed := true }
def TwrHoldsUptoSaid : Prop := twrHoldsUptoRow.holds Try.pinned (OpenSpec.upto twrHoldsSpec)

end Rows
end Go.Proofs.Ytioohgocbpdkeaa
