/-
  The walk of awake: two closed calls of Next.
-/
import Derived.Test.YtphilonmniidmaaNext
import Derived.Test.YtphilonmniidmaaFresh
namespace Go.Proofs.Ytphilonmniidmaa
open Go.RowKit

theorem isRow_new (w : World) (ty : TypeId) (zs : List Int) (vs : Array Value) (b : Nat) (hb : b = w.heap.size) (hv : vs = (zs.map (Value.int .i64)).toArray) (hm : zs.length ≤ 100) (hwf : ∀ n ∈ zs, (Lit.int .i64 n).wf = true) :
    IsRow .i64 (w.alloc (.cells vs ty)) (some ⟨b, 0, none⟩) zs.length zs.length zs := by
  refine .inr ⟨_, rfl, Nat.le_refl _, by unfold maxLen; omega, rfl, ?_, hwf⟩
  intro i hi
  subst hv
  have ea : (⟨b, 0, none⟩ : Addr).add i = ⟨b, i, none⟩ := by
    unfold Addr.add; split
    · subst i; rfl
    · simp
  rw [ea, World.cell?_alloc_at _ _ _ _ hb]
  simp [List.getD_eq_getElem?_getD, hi]

set_option maxHeartbeats 400000 in
theorem awake_any (w : World) : Calls Try.prog 7 #[] w fun e w' => e = .returned (.bool true) ∧ Below w.heap.size w w' := by
  have n1 : nextN ([5, 2, 9].take 3) 5 = 9 := by decide
  have b1 : nextB ([5, 2, 9].take 3) 5 = true := by decide
  have n2 : nextN ([5, 2, 9].take 3) 9 = 2 := by decide
  have b2 : nextB ([5, 2, 9].take 3) 9 = true := by decide
  have N1 := Lib.hid n1
  have B1 := Lib.hid b1
  have N2 := Lib.hid n2
  have B2 := Lib.hid b2
  clear n1 b1 n2 b2
  go_enter Try.func7, Try.ntmps7
  go_wp2_with fail
  refine (next_any _ 3 3 [5, 2, 9] 5 _ (isRow_new _ _ [5, 2, 9] _ _ (by simp) rfl (by decide) (by decide))).mono ?_
  rintro e w' ⟨rfl, rfl⟩
  rw [N1.out, B1.out]
  go_wp2_with fail
  refine (next_any _ 3 3 [5, 2, 9] 9 _ (isRow_new _ _ [5, 2, 9] _ _ (by simp) rfl (by decide) (by decide))).mono ?_
  rintro e w' ⟨rfl, rfl⟩
  rw [N2.out, B2.out]
  go_wp2_with fail
  go_ret
  exact ⟨rfl, ((Below.refl _ _).alloc (Nat.le_refl _) _).alloc (by simp) _⟩
end Go.Proofs.Ytphilonmniidmaa
