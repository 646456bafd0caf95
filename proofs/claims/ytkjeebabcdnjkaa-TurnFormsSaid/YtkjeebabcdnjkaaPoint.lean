/-
  Points that came in, by value; closed facts of the program.
-/
import Derived.Test.YtkjeebabcdnjkaaRows
import Derived.Test.YtkjeebabcdnjkaaBase
set_option linter.unusedVariables false
namespace Go.Proofs.Ytkjeebabcdnjkaa
open Go.ChangeShapes Go.WideShapes Go.ChangeAt Go.RowKit

theorem Try.own : ownKnob Try.prog.godebug = none := by kernel_rfl
theorem Try.laidOut : laidOutB Try.prog = true := by kernel_rfl

theorem open_point {H : Type} {enc : TypeId × Value → H} {W : World} {r : Reach} {base : Nat} {v : Value} {d : DataW H} {p : List MemPlace}
    (hv : Value.okWide Try.prog W r base 23 v) (h : DataW.Trod enc Try.prog W 0 (fun _ => true) true 23 v d p) :
    ∃ x y : Int, v = .agg #[.int .i64 x, .int .i64 y] ∧ (Lit.int .i64 x).wf = true ∧ (Lit.int .i64 y).wf = true := by
  obtain ⟨cs, rfl, hs⟩ := okWide_struct Try.underlying23 hv
  have hs2 : cs.size = 2 := hs.trans (by kernel_rfl)
  obtain ⟨l⟩ := cs
  match l, hs2 with
  | [c0, c1], _ =>
    obtain ⟨fuel, hf⟩ := h
    have hf' : DataW.trod enc Try.prog W 0 (fun _ => true) true fuel 23 [c0, c1] = some (d, p) := hf
    have i64 := @Try.underlying2
    obtain ⟨k0, w0⟩ := leaf_int (d := 3) (l := 2) (j := 0) (u := c0) (by kernel_rfl) i64 rfl hf'
    obtain ⟨k1, w1⟩ := leaf_int (d := 3) (l := 2) (j := 1) (u := c1) (by kernel_rfl) i64 rfl hf'
    exact ⟨_, _, by rw [k0, k1]; rfl, w0, w1⟩
end Go.Proofs.Ytkjeebabcdnjkaa
