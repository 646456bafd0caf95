/-
  The walks of truth: awake.
-/
import Derived.Test.YtfpmmahonddpoaaTr6
set_option linter.unusedVariables false
set_option linter.unusedSimpArgs false
namespace Go.Proofs.Ytfpmmahonddpoaa
open Go Go.RowKit Sx

theorem may_cfg {a0 a1 a2 a3 a8 a9 : Int} (h0 : 1 ≤ a0 ∧ a0 ≤ 64) (h1 : 1 ≤ a1 ∧ a1 ≤ 64) (h2 : 0 ≤ a2 ∧ a2 ≤ 1000) (h3 : 0 ≤ a3 ∧ a3 ≤ 1000) (h8 : 1 ≤ a8 ∧ a8 ≤ 1000) (h9 : 1 ≤ a9 ∧ a9 ≤ 100) : mayC (cfgF a0 a1 a2 a3 a8 a9) :=
  ⟨h0, h1, h2, h3, ⟨by show (0 : Int) ≤ 10; decide, by show (10 : Int) ≤ 1000; decide⟩, ⟨by show (0 : Int) ≤ 1; decide, by show (1 : Int) ≤ 100; decide⟩, ⟨by show (1 : Int) ≤ 50; decide, by show (50 : Int) ≤ 1000; decide⟩, h8, ⟨by show (1 : Int) ≤ 30; decide, by show (30 : Int) ≤ 10000; decide⟩, h9, ⟨by show (2 : Int) ≤ 1000000000000; decide, by show (1000000000000 : Int) ≤ 140737488355328; decide⟩, by show a9 * (50 + 2 * 1 + 2) ≤ 32767; omega⟩
theorem dist07 : distN (pos0 0) (pos0 1) (pos0 14) (pos0 15) = 7000 := by
  have h : ((isq 49000000 : Nat) : Int) = 7000 := by rw [isq_eq (r := 7000) (by decide) (by decide)]; rfl
  unfold distN
  rw [if_pos (by decide)]
  exact h
set_option maxRecDepth 100000 in
set_option maxHeartbeats 2000000 in
theorem awake24_x (w : World) : Calls Try.prog 13 #[] w fun e w' => e = .returned (.bool true) ∧ Below w.heap.size w w' := by
  refine calls_pure (G := tys) w tysOK mixed Try.func13 (by rfl) rfl rfl ?_
  repeat' (refine N.go ?_; first | with_reducible refine N.obl (by decide) ?_ | with_reducible refine N.obl (flat_wi _ _ _) ?_ | with_reducible refine N.obl (flat_lim _ _) ?_ | with_reducible refine N.eq ?_ | with_reducible refine N.obl rfl ?_ | with_reducible refine N.obl ⟨by kernel_rfl, by kernel_rfl⟩ ?_ | with_reducible refine N.forkT ?_ | with_reducible refine N.forkF ?_ | refine N.call (cConfig _ _ _ _ _ _ _) ?_)
  refine N.go ?_
  refine N.callAll (cNewW (cfgF (1 + um 7 8) (1 + um 1 6) (um 20 40) (um 2 10) (1 + um 1 6) (1 + um 1 8)) 4 8 _ (by decide) (by decide) rfl rfl rfl) fun v ms hR => ?_
  obtain ⟨s, ⟨hs1, hs2⟩, rfl, rfl⟩ := hR
  repeat' (refine N.go ?_; first | with_reducible refine N.obl (by decide) ?_ | with_reducible refine N.obl (flat_wi _ _ _) ?_ | with_reducible refine N.obl (flat_lim _ _) ?_ | with_reducible refine N.eq ?_ | with_reducible refine N.obl rfl ?_ | with_reducible refine N.obl ⟨by kernel_rfl, by kernel_rfl⟩ ?_ | with_reducible refine N.forkT ?_ | with_reducible refine N.forkF ?_ | refine N.call (cPlaceY (cfgF (1 + um 7 8) (1 + um 1 6) (um 20 40) (um 2 10) (1 + um 1 6) (1 + um 1 8)) 8 s.cap 4 5 6 pos0 (fun _ => false) 0 0 _ _ _ 7 _ (by rfl) (by rfl) (by rfl) (by decide)) ?_ | refine N.call (cFlightY (cfgF (1 + um 7 8) (1 + um 1 6) (um 20 40) (um 2 10) (1 + um 1 6) (1 + um 1 8)) 8 s.cap 4 5 6 pos0 (fun _ => false) 0 0 _ _ _ 0 7 _ (by rfl) (by rfl) (by rfl) (by decide) (by decide)) ?_ | refine N.call (cMoveG (cfgF (1 + um 7 8) (1 + um 1 6) (um 20 40) (um 2 10) (1 + um 1 6) (1 + um 1 8)) 8 s.cap 4 5 6 pos0 (fun _ => false) 0 0 _ 0 3 0 4 0 (by decide) (by decide) (by decide) _ (by rfl) (by rfl) (by rfl) (by decide) (by decide) (by decide) (by decide) (by decide) (by decide) (by decide) (by decide) (by decide) (by decide)) ?_ | refine N.call (cMoveE (cfgF (1 + um 7 8) (1 + um 1 6) (um 20 40) (um 2 10) (1 + um 1 6) (1 + um 1 8)) 8 s.cap 4 5 6 (movP pos0 0 (pos0 0 + 3) (pos0 1 + 0)) (movM (fun _ => false) 0) 0 0 _ _ _ 0 0 0 0 0 _ (by rfl) (by rfl) (by rfl) (by decide) (by decide) (by decide) (by decide) (by decide) (by decide) (by decide) (by decide)) ?_ | with_reducible refine N.bin _ (eq_point _ _ _ _ _ _) ?_ | refine N.forkYes (by rw [show distN (pos0 (0 * 2)) (pos0 (0 * 2 + 1)) (pos0 (7 * 2)) (pos0 (7 * 2 + 1)) = 7000 from dist07]; rfl) ?_ | refine N.forkYes (by decide) ?_)
  rfl
theorem cAwake24 (h : List (Option Chunk)) : CallOK Try.prog 13 [] h (.bool true) [] [] :=
  call_pure rfl rfl (Try.call13 _) awake24_x
end Go.Proofs.Ytfpmmahonddpoaa
