
/-
  The contracts of wide that were walked before, as the evaluator takes them.
-/
import Derived.Test.YtbepibdjlajppaaDoorWc
import Derived.Test.YtbepibdjlajppaaDoorWide7
import Derived.Test.YtbepibdjlajppaaDoorDiv64
import Derived.IntWalk
set_option linter.unusedVariables false
set_option linter.unusedSimpArgs false
namespace Go.Proofs.YtbepibdjlajppaaDoor
open Go Go.RowKit Sx

theorem plain3_wi (neg over : Bool) (v : Nat) : plain3 (.agg ⟨wiL neg over v⟩) = true := plain_wi neg over v
theorem cMade (neg : Bool) (v : Nat) (h : List (Option Chunk)) (hv : v < Top) : CallOK Tryd.prog 62 [.bool neg, .agg ⟨limL 16 (dg v)⟩] h (.agg ⟨wiL (neg && decide (v ≠ 0)) false v⟩) [] [] :=
  call_pure (by simp [plain_lim]; rfl) (plain3_wi _ _ _) (Tryd.call62 _) fun w => by
    have := made_any neg v hv w
    rw [wi_is] at this
    exact this
theorem cOf (n : Int) (h : List (Option Chunk)) (h0 : -9223372036854775808 ≤ n) (h1 : n < 9223372036854775808) : CallOK Tryd.prog 23 [.int .i64 n] h (.agg ⟨wiL (decide (n < 0)) false n.natAbs⟩) [] [] :=
  call_pure rfl (plain3_wi _ _ _) (Tryd.call23 _) fun w => by
    have := wof_any n h0 h1 w
    unfold zi at this
    rw [wi_is] at this
    exact this
theorem cGreat (h : List (Option Chunk)) : CallOK Tryd.prog 58 [] h (.agg ⟨wiL false true 0⟩) [] [] :=
  call_pure rfl (plain3_wi _ _ _) (Tryd.call58 _) fun w => by
    have := great_any w
    rw [wi_is] at this
    exact this
theorem reads_lims {o : Bool} {n m p : Nat} {f : Nat → Nat} (hp : p + m ≤ n) : Reads ⟨o, n, [(0, n, .agg ⟨limL n f⟩)]⟩ p true m (.agg ⟨limL m (fun k => f (p + k))⟩) := by
  refine ⟨hp, _, rfl, limL_len _ _, fun k hk => ?_⟩
  show cellOf _ _ = _
  rw [cellOf_cons, if_pos (by omega)]
  simp only [cellIn]
  rw [limL_get hk, show p + k - 0 = p + k from rfl, limL_get (by omega)]
theorem writes_all {n : Nat} {ps : List (Nat × Nat × Value)} {v : Value} : Writes ⟨true, n, ps⟩ 0 n v ⟨true, n, [(0, n, v)]⟩ := by
  refine ⟨rfl, by show 0 + n ≤ n; omega, rfl, fun k hk => ?_⟩
  have hk : k < n := hk
  show cellOf _ _ = _
  rw [cellOf_cons, if_pos (by omega), if_pos (by omega)]
end Go.Proofs.YtbepibdjlajppaaDoor
