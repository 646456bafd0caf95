/-
  The walk of awake: two closed calls of Next.
-/
import Derived.Test.YtphilonmniidmaaNext
import Derived.Test.YtphilonmniidmaaFresh
set_option linter.unusedVariables false
namespace Go.Proofs.Ytphilonmniidmaa
open Go.RowKit

theorem Try.own : ownKnob Try.prog.godebug = none := by kernel_rfl
theorem Try.bytesInt : Try.prog.bytesOf 3 = 8 := by kernel_rfl
theorem Try.laidOut : laidOutB Try.prog = true := by kernel_rfl

set_option maxHeartbeats 400000 in
theorem awake_any (w : World) : Calls Try.prog 7 #[] w fun e w' => e = .returned (.bool true) ∧ Below w.heap.size w w' := by
  have n1 : nextN [5, 2, 9] 5 = 9 := by decide
  have b1 : nextB [5, 2, 9] 5 = true := by decide
  have n2 : nextN [5, 2, 9] 9 = 2 := by decide
  have b2 : nextB [5, 2, 9] 9 = true := by decide
  have N1 := Lib.hid n1
  have B1 := Lib.hid b1
  have N2 := Lib.hid n2
  have B2 := Lib.hid b2
  clear n1 b1 n2 b2
  go_enter Try.func7, Try.ntmps7
  go_wp2_with fail
  refine (next_any _ 3 [5, 2, 9] _ 5 _ (by decide) (Seg.ints_new _ _ _ [5, 2, 9] _ _ (by simp) rfl)).mono ?_
  rintro e w' ⟨rfl, rfl⟩
  rw [N1.out, B1.out]
  go_wp2_with fail
  refine (next_any _ 3 [5, 2, 9] _ 9 _ (by decide) (Seg.ints_new _ _ _ [5, 2, 9] _ _ (by simp) rfl)).mono ?_
  rintro e w' ⟨rfl, rfl⟩
  rw [N2.out, B2.out]
  go_wp2_with fail
  go_ret
  exact ⟨rfl, ((Below.refl _ _).alloc (Nat.le_refl _) _).alloc (by simp) _⟩
end Go.Proofs.Ytphilonmniidmaa
