/-
  The walks of truth: Tick.
-/
import Derived.Test.YtfpmmahonddpoaaTr7
set_option linter.unusedVariables false
set_option linter.unusedSimpArgs false
namespace Go.Proofs.Ytfpmmahonddpoaa
open Go Go.RowKit Sx

theorem post_mk {ix : List (Nat × Nat)} {h : List (Option Chunk)} {k n : Nat} (hh : h[k]? = some (some ⟨true, n, [(0, n, .agg ⟨segL n (repZ 1 (.bool false))⟩)]⟩)) : PostC ix h k (mvP true n (fun _ => false)) :=
  ⟨_, hh, id, Nat.le_refl _, fun j hj => by
    have hj : j < n := hj
    rw [seg_at hj, seg_at hj]
    rw [show repZ 1 (.bool false) j = .bool false from (repZ_bool j).symm]
    exact .plain rfl⟩
set_option maxRecDepth 100000 in
set_option maxHeartbeats 2000000 in
theorem cTickN (c : Nat → Int) (n cap i j k : Nat) (P : Nat → Int) (M : Nat → Bool) (tm st : Int) (o1 o2 o3 : Bool) (h : List (Option Chunk)) (hi : h[i]? = some (some (wcc o1 c n cap j k tm st))) (hj : h[j]? = some (some (ptP o2 n P))) (hk : h[k]? = some (some (mvP o3 n M))) (ht : ¬ tm < 750000) :
    CallOK Try.prog 10 [.pointer (some ⟨i, 0, some 0⟩)] h (.bool false) [] [i, j, k] := by
  refine call_sub (G := tys) [⟨i, _, wcc false c n cap 1 2 tm st, ⟨false, 0, []⟩⟩, ⟨j, _, ptP false n P, ⟨false, 0, []⟩⟩, ⟨k, _, mvP false n M, ⟨false, 0, []⟩⟩] [] [.pointer (some ⟨0, 0, some 0⟩)] tysOK mixed Try.func10 (by rfl) (Try.call10) ⟨hi, hj, hk, trivial⟩ ⟨⟨fun h => (by cases h), Nat.le_refl _, wcc_re rfl rfl⟩, ⟨fun h => (by cases h), Nat.le_refl _, ptP_re⟩, ⟨fun h => (by cases h), Nat.le_refl _, mvP_re⟩, trivial⟩ (by simp [Apart]) trivial ⟨.ptr rfl, trivial⟩ ?_
  repeat' (refine N.go ?_; first | with_reducible refine N.obl (by decide) ?_ | with_reducible refine N.obl (flat_wi _ _ _) ?_ | with_reducible refine N.obl (flat_lim _ _) ?_ | with_reducible refine N.eq ?_ | with_reducible refine N.obl rfl ?_ | with_reducible refine N.obl ⟨by kernel_rfl, by kernel_rfl⟩ ?_ | with_reducible refine N.forkT ?_ | with_reducible refine N.forkF ?_ | refine N.obl trivial ?_ | exact N.true | refine N.obl (.plain rfl) ?_ | refine N.forkYes (by rw [decide_eq_true_eq]; omega) ?_)
set_option maxRecDepth 100000 in
set_option maxHeartbeats 2000000 in
theorem cTickY (c : Nat → Int) (n cap i j k m : Nat) (P : Nat → Int) (M : Nat → Bool) (tm st : Int) (o2 o3 : Bool) (h : List (Option Chunk)) (hi : h[i]? = some (some (wcc true c n cap j k tm st))) (hj : h[j]? = some (some (ptP o2 n P))) (hk : h[k]? = some (some (mvP o3 n M))) (hm : h[m]? = some none) (hij : i ≠ j) (hik : i ≠ k) (hn : 1 ≤ n ∧ n ≤ 64) (ht : 0 ≤ tm ∧ tm < 750000) :
    CallOK Try.prog 10 [.pointer (some ⟨i, 0, some 0⟩)] h (.bool true) [(i, wcc true c n cap j m (tm + 1) 0), (m, mvP true n (fun _ => false))] [j, k] := by
  have e1 : IntKind.i64.wrap (tm + 1) = tm + 1 := i64s _ (by omega) (by omega)
  refine call_sub (G := tys) [⟨i, _, wcc true c n cap 1 2 tm st, wcc true c n cap j m (tm + 1) 0⟩, ⟨j, _, ptP false n P, ⟨false, 0, []⟩⟩, ⟨k, _, mvP false n M, ⟨false, 0, []⟩⟩] [⟨m, 7, mvP true n (fun _ => false)⟩] [.pointer (some ⟨0, 0, some 0⟩)] tysOK mixed Try.func10 (by rfl) (Try.call10) ⟨hi, hj, hk, trivial⟩ ⟨⟨fun h => ⟨rfl, Nat.le_refl _⟩, Nat.le_refl _, wcc_re rfl rfl⟩, ⟨fun h => (by cases h), Nat.le_refl _, ptP_re⟩, ⟨fun h => (by cases h), Nat.le_refl _, mvP_re⟩, trivial⟩ (by simp [Apart, hij, hik]) ⟨⟨hm, rfl, by show 0 < n; omega, by simp⟩, trivial⟩ ⟨.ptr rfl, trivial⟩ ?_
  repeat' (refine N.go ?_; first | with_reducible refine N.obl (by decide) ?_ | with_reducible refine N.obl (flat_wi _ _ _) ?_ | with_reducible refine N.obl (flat_lim _ _) ?_ | with_reducible refine N.eq ?_ | with_reducible refine N.obl rfl ?_ | with_reducible refine N.obl ⟨by kernel_rfl, by kernel_rfl⟩ ?_ | with_reducible refine N.forkT ?_ | with_reducible refine N.forkF ?_ | refine MakeN.mk n n rfl rfl (by show 1 * n ≤ _; omega) (by omega) (Nat.mul_one n).symm ?_ | refine N.forkNo (by rw [decide_eq_false_iff_not]; omega) ?_ | refine N.obl (.plain rfl) ?_ | refine N.obl ⟨⟨_, rfl, id, Nat.le_refl _, lt15 (by first | exact Re1.plain rfl | exact Re1.slice rfl | exact re1_int (by rw [e1])) (by first | exact Re1.plain rfl | exact Re1.slice rfl | exact re1_int (by rw [e1])) (by first | exact Re1.plain rfl | exact Re1.slice rfl | exact re1_int (by rw [e1])) (by first | exact Re1.plain rfl | exact Re1.slice rfl | exact re1_int (by rw [e1])) (by first | exact Re1.plain rfl | exact Re1.slice rfl | exact re1_int (by rw [e1])) (by first | exact Re1.plain rfl | exact Re1.slice rfl | exact re1_int (by rw [e1])) (by first | exact Re1.plain rfl | exact Re1.slice rfl | exact re1_int (by rw [e1])) (by first | exact Re1.plain rfl | exact Re1.slice rfl | exact re1_int (by rw [e1])) (by first | exact Re1.plain rfl | exact Re1.slice rfl | exact re1_int (by rw [e1])) (by first | exact Re1.plain rfl | exact Re1.slice rfl | exact re1_int (by rw [e1])) (by first | exact Re1.plain rfl | exact Re1.slice rfl | exact re1_int (by rw [e1])) (by first | exact Re1.plain rfl | exact Re1.slice rfl | exact re1_int (by rw [e1])) (by first | exact Re1.plain rfl | exact Re1.slice rfl | exact re1_int (by rw [e1])) (by first | exact Re1.plain rfl | exact Re1.slice rfl | exact re1_int (by rw [e1])) (by first | exact Re1.plain rfl | exact Re1.slice rfl | exact re1_int (by rw [e1]))⟩, trivial⟩ ?_ | refine N.obl ⟨⟨by show 3 ≤ 7; decide, post_mk (by rfl)⟩, trivial⟩ ?_ | refine N.obl trivial ?_ | exact N.true)
end Go.Proofs.Ytfpmmahonddpoaa
