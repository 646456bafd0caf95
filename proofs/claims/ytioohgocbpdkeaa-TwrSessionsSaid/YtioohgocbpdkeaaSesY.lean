/-
  The methods of a session, each case by itself.
-/
import Derived.Test.YtioohgocbpdkeaaSes
set_option linter.unusedVariables false
set_option linter.unusedSimpArgs false
namespace Go.Proofs.Ytioohgocbpdkeaa
open Go Go.RowKit Sx

theorem sPollY (a0 a1 a2 a3 a4 b0 b1 b2 b3 b4 : Int) (t m : Int) (i : Nat) (h : List (Option Chunk)) (hi : h[i]? = some (some (ses a0 a1 a2 a3 a4 b0 b1 b2 b3 b4))) (hB : (0 ≤ t ∧ t ≤ 70368744177664)) : CallOK Try.prog 23 [.pointer (some ⟨i, 0, some 0⟩), .int .i64 t, .int .i64 m] h (.tuple #[]) [(i, ses 1 t 0 m 0 b0 b1 b2 b3 b4)] [] := by
  have := cPollS a0 a1 a2 a3 a4 b0 b1 b2 b3 b4 t m i h hi
  simp only [if_pos hB, ite_self] at this
  exact this
theorem sGotPollY (a0 a1 a2 a3 a4 b0 b1 b2 b3 b4 : Int) (t p : Int) (i : Nat) (h : List (Option Chunk)) (hi : h[i]? = some (some (ses a0 a1 a2 a3 a4 b0 b1 b2 b3 b4))) (hB : (0 ≤ t ∧ t ≤ 70368744177664)) : CallOK Try.prog 24 [.pointer (some ⟨i, 0, some 0⟩), .int .i64 t, .int .i64 p] h (.tuple #[]) [(i, ses a0 a1 a2 a3 a4 1 t 0 0 p)] [] := by
  have := cGotPollS a0 a1 a2 a3 a4 b0 b1 b2 b3 b4 t p i h hi
  simp only [if_pos hB, ite_self] at this
  exact this
theorem sGotRespY (a0 a1 a2 a3 a4 b0 b1 b2 b3 b4 : Int) (t m : Int) (i : Nat) (h : List (Option Chunk)) (hi : h[i]? = some (some (ses a0 a1 a2 a3 a4 b0 b1 b2 b3 b4))) (hB : (a3 = m ∧ ansP a0 a1 t)) : CallOK Try.prog 27 [.pointer (some ⟨i, 0, some 0⟩), .int .i64 t, .int .i64 m] h (.bool true) [(i, ses 2 a1 t a3 a4 b0 b1 b2 b3 b4)] [] := by
  have := cGotRespS a0 a1 a2 a3 a4 b0 b1 b2 b3 b4 t m i h hi
  simp only [if_pos hB, ite_self] at this
  exact this
theorem sGotRespN (a0 a1 a2 a3 a4 b0 b1 b2 b3 b4 : Int) (t m : Int) (i : Nat) (h : List (Option Chunk)) (hi : h[i]? = some (some (ses a0 a1 a2 a3 a4 b0 b1 b2 b3 b4))) (hB : ¬ (a3 = m ∧ ansP a0 a1 t)) : CallOK Try.prog 27 [.pointer (some ⟨i, 0, some 0⟩), .int .i64 t, .int .i64 m] h (.bool false) [(i, ses a0 a1 a2 a3 a4 b0 b1 b2 b3 b4)] [] := by
  have := cGotRespS a0 a1 a2 a3 a4 b0 b1 b2 b3 b4 t m i h hi
  simp only [if_neg hB, ite_self] at this
  exact this
theorem sFinalY (a0 a1 a2 a3 a4 b0 b1 b2 b3 b4 : Int) (t : Int) (i : Nat) (h : List (Option Chunk)) (hi : h[i]? = some (some (ses a0 a1 a2 a3 a4 b0 b1 b2 b3 b4))) (hB : endP a0 a2 t) : CallOK Try.prog 25 [.pointer (some ⟨i, 0, some 0⟩), .int .i64 t] h (.tuple #[.int .i64 (IntKind.i64.wrap (a2 - a1)), .int .i64 (IntKind.i64.wrap (t - a2)), .bool true]) [(i, ses 0 0 0 0 0 b0 b1 b2 b3 b4)] [] := by
  have := cFinalS a0 a1 a2 a3 a4 b0 b1 b2 b3 b4 t i h hi
  simp only [if_pos hB, ite_self] at this
  exact this
theorem sFinalN (a0 a1 a2 a3 a4 b0 b1 b2 b3 b4 : Int) (t : Int) (i : Nat) (h : List (Option Chunk)) (hi : h[i]? = some (some (ses a0 a1 a2 a3 a4 b0 b1 b2 b3 b4))) (hB : ¬ endP a0 a2 t) : CallOK Try.prog 25 [.pointer (some ⟨i, 0, some 0⟩), .int .i64 t] h (.tuple #[.int .i64 0, .int .i64 0, .bool false]) [(i, ses a0 a1 a2 a3 a4 b0 b1 b2 b3 b4)] [] := by
  have := cFinalS a0 a1 a2 a3 a4 b0 b1 b2 b3 b4 t i h hi
  simp only [if_neg hB, ite_self] at this
  exact this
theorem sRespY (a0 a1 a2 a3 a4 b0 b1 b2 b3 b4 : Int) (t m : Int) (i : Nat) (h : List (Option Chunk)) (hi : h[i]? = some (some (ses a0 a1 a2 a3 a4 b0 b1 b2 b3 b4))) (hB : ansP b0 b1 t) : CallOK Try.prog 28 [.pointer (some ⟨i, 0, some 0⟩), .int .i64 t, .int .i64 m] h (.bool true) [(i, ses a0 a1 a2 a3 a4 2 b1 t m b4)] [] := by
  have := cRespS a0 a1 a2 a3 a4 b0 b1 b2 b3 b4 t m i h hi
  simp only [if_pos hB, ite_self] at this
  exact this
theorem sRespN (a0 a1 a2 a3 a4 b0 b1 b2 b3 b4 : Int) (t m : Int) (i : Nat) (h : List (Option Chunk)) (hi : h[i]? = some (some (ses a0 a1 a2 a3 a4 b0 b1 b2 b3 b4))) (hB : ¬ ansP b0 b1 t) : CallOK Try.prog 28 [.pointer (some ⟨i, 0, some 0⟩), .int .i64 t, .int .i64 m] h (.bool false) [(i, ses a0 a1 a2 a3 a4 b0 b1 b2 b3 b4)] [] := by
  have := cRespS a0 a1 a2 a3 a4 b0 b1 b2 b3 b4 t m i h hi
  simp only [if_neg hB, ite_self] at this
  exact this
theorem sGotFinalY (a0 a1 a2 a3 a4 b0 b1 b2 b3 b4 : Int) (t r d m : Int) (i : Nat) (h : List (Option Chunk)) (hi : h[i]? = some (some (ses a0 a1 a2 a3 a4 b0 b1 b2 b3 b4))) (hB : (b3 = m ∧ endP b0 b2 t)) : CallOK Try.prog 26 [.pointer (some ⟨i, 0, some 0⟩), .int .i64 t, .int .i64 r, .int .i64 d, .int .i64 m] h (.tuple #[.agg #[.int .i64 r, .int .i64 (IntKind.i64.wrap (b2 - b1)), .int .i64 d, .int .i64 (IntKind.i64.wrap (t - b2))], .int .i64 b4, .bool true]) [(i, ses a0 a1 a2 a3 a4 0 0 0 0 0)] [] := by
  have := cGotFinalS a0 a1 a2 a3 a4 b0 b1 b2 b3 b4 t r d m i h hi
  simp only [if_pos hB, ite_self] at this
  exact this
theorem sGotFinalN (a0 a1 a2 a3 a4 b0 b1 b2 b3 b4 : Int) (t r d m : Int) (i : Nat) (h : List (Option Chunk)) (hi : h[i]? = some (some (ses a0 a1 a2 a3 a4 b0 b1 b2 b3 b4))) (hB : ¬ (b3 = m ∧ endP b0 b2 t)) : CallOK Try.prog 26 [.pointer (some ⟨i, 0, some 0⟩), .int .i64 t, .int .i64 r, .int .i64 d, .int .i64 m] h (.tuple #[.agg #[.int .i64 0, .int .i64 0, .int .i64 0, .int .i64 0], .int .i64 0, .bool false]) [(i, ses a0 a1 a2 a3 a4 b0 b1 b2 b3 b4)] [] := by
  have := cGotFinalS a0 a1 a2 a3 a4 b0 b1 b2 b3 b4 t r d m i h hi
  simp only [if_neg hB, ite_self] at this
  exact this
theorem eq_timing (x y : Operand) (a b c d p q r s : Int) : BinIs Try.prog .eql 34 x y (.agg #[.int .i64 a, .int .i64 b, .int .i64 c, .int .i64 d]) (.agg #[.int .i64 p, .int .i64 q, .int .i64 r, .int .i64 s]) (.bool (a == p && (b == q && (c == r && d == s)))) :=
  ⟨rfl, rfl, rfl, fun w => by go_simp; by_cases h1 : a = p <;> by_cases h2 : b = q <;> by_cases h3 : c = r <;> by_cases h4 : d = s <;> simp [h1, h2, h3, h4]⟩
end Go.Proofs.Ytioohgocbpdkeaa
