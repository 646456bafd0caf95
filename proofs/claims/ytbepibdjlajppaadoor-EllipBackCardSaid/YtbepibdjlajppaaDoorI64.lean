
/-
  The walks of wide.Div by one digit, of Neg, Int64, narrow, above, MulDiv, MulDivUp (third part).
-/
import Derived.Test.YtbepibdjlajppaaDoorNeg
set_option linter.unusedVariables false
set_option linter.unusedSimpArgs false
namespace Go.Proofs.YtbepibdjlajppaaDoor
open Go Go.RowKit Sx

theorem dg_one (n : Nat) : dg n 0 = n % 18446744073709551616 := by
  show n / Bs ^ 0 % Bs = _
  rw [Nat.pow_zero, Nat.div_one]
def in64 (z : Int) : Bool := decide (-9223372036854775808 ≤ z ∧ z < 9223372036854775808)
def n64 (z : Int) : Int := if in64 z then z else 0
theorem tup2 {a b : Int} (h : a = b) : Value.tuple ⟨[Value.int IntKind.i64 a, Value.bool true]⟩ = Value.tuple #[Value.int IntKind.i64 b, Value.bool true] := by rw [h]
theorem n64_in {z : Int} (h : -9223372036854775808 ≤ z ∧ z < 9223372036854775808) : in64 z = true ∧ n64 z = z := by
  have : in64 z = true := decide_eq_true h
  exact ⟨this, by unfold n64; rw [this]; rfl⟩
theorem n64_out {z : Int} (h : ¬ (-9223372036854775808 ≤ z ∧ z < 9223372036854775808)) : in64 z = false ∧ n64 z = 0 := by
  have : in64 z = false := decide_eq_false h
  exact ⟨this, by unfold n64; rw [this]; rfl⟩
theorem bl_le (n : Nat) (hn : n < Bs ^ 16) : bl n ≤ 64 ↔ n < 18446744073709551616 :=
  ⟨fun h => Nat.lt_of_lt_of_le (bl_spec n hn).1 (Nat.pow_le_pow_right (by decide) h : 2 ^ bl n ≤ 2 ^ 64), fun h => bl_small n 64 hn h⟩
/-- The errno of a number that fits, or not. -/
def e64 (z : Int) : Int := if in64 z then 0 else 2
end Go.Proofs.YtbepibdjlajppaaDoor
