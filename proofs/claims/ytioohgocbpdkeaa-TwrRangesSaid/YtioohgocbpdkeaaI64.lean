/-
  The walks of wide.Div by one digit, of Neg, Int64, narrow, above, MulDiv, MulDivUp (third part).
-/
import Derived.Test.YtioohgocbpdkeaaNeg
set_option linter.unusedVariables false
set_option linter.unusedSimpArgs false
namespace Go.Proofs.Ytioohgocbpdkeaa
open Go Go.RowKit Sx

theorem dg_one (n : Nat) : dg n 0 = n % 18446744073709551616 := by
  show n / Bs ^ 0 % Bs = _
  rw [Nat.pow_zero, Nat.div_one]
def in64 (z : Int) : Bool := decide (-9223372036854775808 ≤ z ∧ z < 9223372036854775808)
def n64 (z : Int) : Int := if in64 z then z else 0
theorem tup2 {a b : Int} (h : a = b) : Value.tuple ⟨[Value.int IntKind.i64 a, Value.bool true]⟩ = Value.tuple #[Value.int IntKind.i64 b, Value.bool true] := by rw [h]
theorem n64_in {z : Int} (h : -9223372036854775808 ≤ z ∧ z < 9223372036854775808) : in64 z = true ∧ n64 z = z := by
  have : in64 z = true := decide_eq_true h
  exact ⟨this, by unfold n64; rw [this]; rfl⟩
theorem n64_out {z : Int} (h : ¬ (-9223372036854775808 ≤ z ∧ z < 9223372036854775808)) : in64 z = false ∧ n64 z = 0 := by
  have : in64 z = false := decide_eq_false h
  exact ⟨this, by unfold n64; rw [this]; rfl⟩
theorem bl_le (n : Nat) (hn : n < Bs ^ 16) : bl n ≤ 64 ↔ n < 18446744073709551616 :=
  ⟨fun h => Nat.lt_of_lt_of_le (bl_spec n hn).1 (Nat.pow_le_pow_right (by decide) h : 2 ^ bl n ≤ 2 ^ 64), fun h => bl_small n 64 hn h⟩
set_option maxRecDepth 100000 in
theorem int64_x (z : Int) (hz : z.natAbs < Top) (w : World) : Calls Try.prog 63 #[.agg ⟨wiL (decide (z < 0)) false z.natAbs⟩] w fun e w' => e = .returned (.tuple #[.int .i64 (n64 z), .bool (in64 z)]) ∧ Below w.heap.size w w' := by
  have hz16 := Nat.lt_trans hz top_lt
  refine calls_pure (G := tys) w tysOK mixed Try.func63 (by rfl) (by first | rfl | (simp only [List.all_cons, List.all_nil, plain_wz, plain_lim, plain_wi]; rfl)) (by first | exact plain3_wz _ | exact plain3_wi _ _ _ | rfl | (simp only [plain3, List.all_cons, List.all_nil, plain_wz, plain_lim, plain_wi]; rfl)) ?_
  repeat' (refine N.go ?_; first | with_reducible refine N.obl (flat_wi _ _ _) ?_ | with_reducible refine N.obl (flat_lim _ _) ?_ | with_reducible refine N.eq ?_ | with_reducible refine N.obl rfl ?_ | with_reducible refine N.obl ⟨by kernel_rfl, by kernel_rfl⟩ ?_ | with_reducible refine N.forkT ?_ | with_reducible refine N.forkF ?_ | with_reducible refine N.fork (fun hb => ?_) (fun hb => ?_) | refine N.call (cBits _ _ _ _ (has_wi (by rfl))) ?_)
  all_goals
    have hbl := bl_le z.natAbs hz16
    have hdg := dg_one z.natAbs
    try simp only [IntKind.wrap_i64, IntKind.wrap_u64]
    generalize bl z.natAbs = B at *
    generalize dg z.natAbs 0 = D at *
    clear hz hz16
    simp only [decide_eq_true_eq, decide_eq_false_iff_not, beq_iff_eq, beq_eq_false_iff_ne, Bool.not_eq_true', Bool.not_eq_false', ne_eq, gt_iff_lt] at *
    first
      | (obtain ⟨e1, e2⟩ := n64_in (z := z) (by omega); rw [e1, e2]; exact tup2 (by omega))
      | (obtain ⟨e1, e2⟩ := n64_out (z := z) (by omega); rw [e1, e2])
theorem cInt64 (z : Int) (h : List (Option Chunk)) (hz : z.natAbs < Top) : CallOK Try.prog 63 [wz z] h (.tuple #[.int .i64 (n64 z), .bool (in64 z)]) [] [] :=
  call_pure (by simp [plain_wz]) rfl (Try.call63 _) (int64_x z hz)
/-- The errno of a number that fits, or not. -/
def e64 (z : Int) : Int := if in64 z then 0 else 2
set_option maxRecDepth 100000 in
theorem narrow_x (z : Int) (hz : z.natAbs < Top) (w : World) : Calls Try.prog 52 #[wz z, .int .i64 0] w fun e w' => e = .returned (.tuple #[.int .i64 (n64 z), .int .i64 (e64 z)]) ∧ Below w.heap.size w w' := by
  refine calls_pure (G := tys) w tysOK mixed Try.func52 (by rfl) (by first | rfl | (simp only [List.all_cons, List.all_nil, plain_wz, plain_lim, plain_wi]; rfl)) (by first | exact plain3_wz _ | exact plain3_wi _ _ _ | rfl | (simp only [plain3, List.all_cons, List.all_nil, plain_wz, plain_lim, plain_wi]; rfl)) ?_
  repeat' (refine N.go ?_; first | with_reducible refine N.obl (flat_wi _ _ _) ?_ | with_reducible refine N.obl (flat_lim _ _) ?_ | with_reducible refine N.eq ?_ | with_reducible refine N.obl rfl ?_ | with_reducible refine N.obl ⟨by kernel_rfl, by kernel_rfl⟩ ?_ | with_reducible refine N.forkT ?_ | with_reducible refine N.forkF ?_ | with_reducible refine N.fork (fun hb => ?_) (fun hb => ?_) | with_reducible refine N.call (cInt64 z _ hz) ?_)
  · exfalso; exact absurd hb (by decide)
  · have h : in64 z = false := by simpa using hb
    unfold n64 e64; rw [h]; rfl
  · have h : in64 z = true := by simpa using hb
    unfold e64; rw [h]; rfl
theorem cNarrow (z : Int) (h : List (Option Chunk)) (hz : z.natAbs < Top) : CallOK Try.prog 52 [wz z, .int .i64 0] h (.tuple #[.int .i64 (n64 z), .int .i64 (e64 z)]) [] [] :=
  call_pure (by simp [plain_wz]; rfl) rfl (Try.call52 _) (narrow_x z hz)
end Go.Proofs.Ytioohgocbpdkeaa
