/-
  The contracts of turn, as the evaluator takes them.
-/
import Derived.Test.YtkjeebabcdnjkaaTurn3
import Derived.Test.YtkjeebabcdnjkaaDist
import Derived.Test.YtkjeebabcdnjkaaPoint
import Derived.Test.YtkjeebabcdnjkaaTy
import Derived.IntWalk
set_option linter.unusedVariables false
namespace Go.Proofs.Ytkjeebabcdnjkaa
open Go Go.ChangeShapes Go.WideShapes Go.ChangeAt Go.RowKit Sx

theorem cMul (px py qx qy : Int) (h : List (Option Chunk)) : CallOK Try.prog 9 [.agg #[.int .i64 px, .int .i64 py], .agg #[.int .i64 qx, .int .i64 qy]] h (.agg #[.int .i64 (mulX px py qx qy), .int .i64 (mulY px py qx qy)]) [] [] := call_pure (by rfl) (by rfl) (Try.call9 _) (fun w => mul_any px py qx qy w)
theorem cQuarter (x y k : Int) (h : List (Option Chunk)) : CallOK Try.prog 10 [.agg #[.int .i64 x, .int .i64 y], .int .i64 k] h (.agg #[.int .i64 (quarX x y k), .int .i64 (quarY x y k)]) [] [] := call_pure (by rfl) (by rfl) (Try.call10 _) (fun w => quarter_any x y k w)
theorem cNorm (x y : Int) (h : List (Option Chunk)) : CallOK Try.prog 17 [.agg #[.int .i64 x, .int .i64 y]] h (.int .i64 (normN x y)) [] [] := call_pure (by rfl) (by rfl) (Try.call17 _) (fun w => norm_any x y w)
theorem cDist (px py qx qy : Int) (h : List (Option Chunk)) : CallOK Try.prog 16 [.agg #[.int .i64 px, .int .i64 py], .agg #[.int .i64 qx, .int .i64 qy]] h (.int .i64 (distN px py qx qy)) [] [] := call_pure (by rfl) (by rfl) (Try.call16 _) (fun w => dist_any px py qx qy w)
theorem cMay (x y : Int) (h : List (Option Chunk)) : CallOK Try.prog 11 [.agg #[.int .i64 x, .int .i64 y]] h (.bool (stp x y)) [] [] := call_pure (by rfl) (by rfl) (Try.call11 _) (fun w => maystep_any x y w)
theorem cAwake (h : List (Option Chunk)) : CallOK Try.prog 12 [] h (.bool true) [] [] := call_pure (by rfl) (by rfl) (Try.call12 _) (fun w => awake_any w)
theorem eq_point (x y : Operand) (a b c d : Int) : BinIs Try.prog .eql 23 x y (.agg #[.int .i64 a, .int .i64 b]) (.agg #[.int .i64 c, .int .i64 d]) (.bool (a == c && b == d)) :=
  ⟨rfl, rfl, rfl, fun w => by go_simp; by_cases h1 : a = c <;> by_cases h2 : b = d <;> simp [h1, h2]⟩
theorem ne_point (x y : Operand) (a b c d : Int) : BinIs Try.prog .neq 23 x y (.agg #[.int .i64 a, .int .i64 b]) (.agg #[.int .i64 c, .int .i64 d]) (.bool !(a == c && b == d)) :=
  ⟨rfl, rfl, rfl, fun w => by go_simp; by_cases h1 : a = c <;> by_cases h2 : b = d <;> simp [h1, h2]⟩
end Go.Proofs.Ytkjeebabcdnjkaa
