
/-
  The walks of wide's Sqrt, Cmp, and of root's WideUp, Up.
-/
import Derived.Test.YtbepibdjlajppaaDoorSqz
import Derived.Test.YtbepibdjlajppaaDoorArg
set_option linter.unusedVariables false
set_option linter.unusedSimpArgs false
namespace Go.Proofs.YtbepibdjlajppaaDoor
open Go Go.RowKit Sx

theorem limL_lit (n : Nat) (f : Nat → Nat) : (limL n f).all lit1 = true := by simp [limL, lit1]
theorem wiL_lit (n o : Bool) (v : Nat) : (wiL n o v).all lit1 = true := by simp [wiL, limL_lit, lit1]
theorem p125 : (2 : Nat) ^ 125 = 42535295865117307932921825928971026432 := by decide
theorem p126 : (2 : Nat) ^ 126 = 85070591730234615865843651857942052864 := by decide
theorem p127 : (2 : Nat) ^ 127 = 170141183460469231731687303715884105728 := by decide
theorem natTop7 {n : Nat} (h : n < 2 ^ 127) : n < Top := Nat.lt_trans h (Nat.pow_lt_pow_right (a := 2) (by decide) (by decide : 127 < TopBits))
theorem natTop {n : Nat} (h : n < 2 ^ 126) : n < Top := natTop7 (by have := p126; have := p127; omega)
theorem isq_small (v : Nat) (hv : v < 2 ^ 126) : isq v < 9223372036854775808 := isq_below (n := 9223372036854775808) (by have := p126; omega)
theorem wzn (n : Nat) : wz (n : Int) = .agg ⟨wiL false false n⟩ := by unfold wz; rw [decide_eq_false (by omega), Int.natAbs_natCast]
def cmz (a b : Int) : Int := if a < b then -1 else if b < a then 1 else 0
/-- The root, up. -/
def usq (n : Nat) : Nat := if isq n * isq n < n then isq n + 1 else isq n
theorem usq_ge (n : Nat) : n ≤ usq n * usq n := by
  unfold usq
  have := isq_lt n
  split <;> omega
theorem usq_le {n m : Nat} (h : n ≤ m * m) : usq n ≤ m := by
  unfold usq
  have h1 := isq_le n
  split
  · rename_i h2
    exact sq_mono (Nat.lt_of_lt_of_le h2 h)
  · have : isq n * isq n ≤ m * m := by omega
    rcases Nat.lt_or_ge m (isq n) with h3 | h3
    · have := Nat.mul_lt_mul'' h3 h3; omega
    · exact h3
end Go.Proofs.YtbepibdjlajppaaDoor
