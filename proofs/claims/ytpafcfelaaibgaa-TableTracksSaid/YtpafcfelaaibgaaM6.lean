import Derived.Test.YtpafcfelaaibgaaM5

/-
  The document's MayE and Time.
-/
set_option linter.unusedVariables false
set_option linter.unusedSimpArgs false
namespace Go.Proofs.Ytpafcfelaaibgaa
open Go Go.RowKit Sx

set_option maxRecDepth 100000 in
set_option maxHeartbeats 2000000 in
theorem rwithin_x (n m : Int) (hm : 0 ≤ m ∧ m ≤ 1152921504606846976) (w : World) : Calls Try.prog 29 #[.int .i64 n, .int .i64 m] w fun e w' => e = .returned (.bool (decide (-m ≤ n ∧ n ≤ m))) ∧ Below w.heap.size w w' := by
  have hw := i64s (0 - m) (by omega) (by omega)
  refine calls_pure (G := tys) w tysOK mixed Try.func29 (by rfl) (by rfl) (by rfl) ?_
  repeat' (refine N.go ?_; first | with_reducible refine N.obl (by decide) ?_ | with_reducible refine N.obl (flat_wi _ _ _) ?_ | with_reducible refine N.obl (flat_lim _ _) ?_ | with_reducible refine N.eq ?_ | with_reducible refine N.obl rfl ?_ | with_reducible refine N.obl ⟨by kernel_rfl, by kernel_rfl⟩ ?_ | with_reducible refine N.alt ?_ | with_reducible refine N.forkT ?_ | with_reducible refine N.forkF ?_ | with_reducible refine N.fork (fun hb => ?_) (fun hb => ?_) | fail_if_success skip)
  all_goals try rw [hw] at *
  all_goals
    refine boolD ?_
    simp only [decide_eq_true_eq, decide_eq_false_iff_not, Bool.false_eq_true, false_iff, true_iff, iff_true, iff_false, reduceCtorEq, not_true_eq_false, not_false_eq_true, ge_iff_le, gt_iff_lt] at *
    omega
theorem cRWithin (n m : Int) (hm : 0 ≤ m ∧ m ≤ 1152921504606846976) (h : List (Option Chunk)) : CallOK Try.prog 29 [.int .i64 n, .int .i64 m] h (.bool (decide (-m ≤ n ∧ n ≤ m))) [] [] := call_pure rfl rfl (Try.call29 _) (rwithin_x n m hm)
set_option maxRecDepth 100000 in
set_option maxHeartbeats 2000000 in
theorem rmaypoint_x (x y : Int) (w : World) : Calls Try.prog 28 #[.agg #[.int .i64 x, .int .i64 y]] w fun e w' => e = .returned (.bool (decide (withinP 4194304 x y))) ∧ Below w.heap.size w w' := by
  refine calls_pure (G := tys) w tysOK mixed Try.func28 (by rfl) (by rfl) (by rfl) ?_
  repeat' (refine N.go ?_; first | with_reducible refine N.obl (by decide) ?_ | with_reducible refine N.obl (flat_wi _ _ _) ?_ | with_reducible refine N.obl (flat_lim _ _) ?_ | with_reducible refine N.eq ?_ | with_reducible refine N.obl rfl ?_ | with_reducible refine N.obl ⟨by kernel_rfl, by kernel_rfl⟩ ?_ | with_reducible refine N.alt ?_ | with_reducible refine N.forkT ?_ | with_reducible refine N.forkF ?_ | refine N.call (cRWithin _ _ (by decide) _) ?_ | with_reducible refine N.fork (fun hb => ?_) (fun hb => ?_) | fail_if_success skip)
  all_goals
    refine boolD ?_
    simp only [decide_eq_true_eq, decide_eq_false_iff_not, Bool.false_eq_true, false_iff, true_iff, iff_true, iff_false, reduceCtorEq, not_true_eq_false, not_false_eq_true, ge_iff_le, gt_iff_lt] at *
    try simp only [withinP] at *
    omega
theorem cRMayPoint (x y : Int) (h : List (Option Chunk)) : CallOK Try.prog 28 [.agg #[.int .i64 x, .int .i64 y]] h (.bool (decide (withinP 4194304 x y))) [] [] := call_pure rfl rfl (Try.call28 _) (rmaypoint_x x y)
set_option maxRecDepth 100000 in
set_option maxHeartbeats 2000000 in
theorem rtime_x (s : Int) (w : World) : Calls Try.prog 18 #[.int .i64 s] w fun e w' => e = .returned (.bool (decide (0 ≤ s ∧ s ≤ 1000000))) ∧ Below w.heap.size w w' := by
  refine calls_pure (G := tys) w tysOK mixed Try.func18 (by rfl) (by rfl) (by rfl) ?_
  repeat' (refine N.go ?_; first | with_reducible refine N.obl (by decide) ?_ | with_reducible refine N.obl (flat_wi _ _ _) ?_ | with_reducible refine N.obl (flat_lim _ _) ?_ | with_reducible refine N.eq ?_ | with_reducible refine N.obl rfl ?_ | with_reducible refine N.obl ⟨by kernel_rfl, by kernel_rfl⟩ ?_ | with_reducible refine N.alt ?_ | with_reducible refine N.forkT ?_ | with_reducible refine N.forkF ?_ | with_reducible refine N.fork (fun hb => ?_) (fun hb => ?_) | fail_if_success skip)
  all_goals
    refine boolD ?_
    simp only [decide_eq_true_eq, decide_eq_false_iff_not, Bool.false_eq_true, false_iff, true_iff, iff_true, iff_false, reduceCtorEq, not_true_eq_false, not_false_eq_true, ge_iff_le, gt_iff_lt] at *
    omega
theorem cRTime (s : Int) (h : List (Option Chunk)) : CallOK Try.prog 18 [.int .i64 s] h (.bool (decide (0 ≤ s ∧ s ≤ 1000000))) [] [] := call_pure rfl rfl (Try.call18 _) (rtime_x s)
theorem sgnI_pos (z : Int) : decide (sgnI z > 0) = decide (0 < z) := by
  unfold sgnI
  split
  · rw [decide_eq_false (by decide), decide_eq_false (by omega)]
  · split
    · rw [decide_eq_false (by decide), decide_eq_false (by omega)]
    · rw [decide_eq_true (by decide), decide_eq_true (by omega)]
set_option maxRecDepth 100000 in
set_option maxHeartbeats 2000000 in
theorem rmaye_x (x y a b d : Int) (w : World) : Calls Try.prog 17 #[.agg #[.int .i64 x, .int .i64 y, .int .i64 a, .int .i64 b, .int .i64 d]] w fun e w' => e = .returned (.bool (decide (mayP x y a b d))) ∧ Below w.heap.size w w' := by
  by_cases hr : withinP 4194304 x y ∧ (1 ≤ a ∧ a ≤ 70368744177664) ∧ (1 ≤ d ∧ d ≤ 70368744177664) ∧ (-70368744177664 ≤ b ∧ b ≤ 70368744177664)
  · obtain ⟨p1, ⟨p2, p3⟩, ⟨p4, p5⟩, p6, p7⟩ := hr
    have he : decide (mayP x y a b d) = decide (sgnI (a * d - b * b) > 0) := by
      rw [sgnI_pos, decide_eq_decide]
      unfold mayP
      exact ⟨fun h => h.2.2.2.2, fun h => ⟨p1, ⟨p2, p3⟩, ⟨p4, p5⟩, ⟨p6, p7⟩, h⟩⟩
    rw [he]
    refine calls_pure (G := tys) w tysOK mixed Try.func17 (by rfl) (by rfl) (by rfl) ?_
    repeat' (refine N.go ?_; first | with_reducible refine N.obl (by decide) ?_ | with_reducible refine N.obl (flat_wi _ _ _) ?_ | with_reducible refine N.obl (flat_lim _ _) ?_ | with_reducible refine N.eq ?_ | with_reducible refine N.obl rfl ?_ | with_reducible refine N.obl ⟨by kernel_rfl, by kernel_rfl⟩ ?_ | with_reducible refine N.alt ?_ | with_reducible refine N.forkT ?_ | with_reducible refine N.forkF ?_ | refine N.call (cRMayPoint _ _ _) ?_ | refine N.call (cRWithin _ _ (by decide) _) ?_ | refine N.call (cASign (a * d - b * b) _ _ _ _ hκ _) ?_ | refine N.forkYes (decide_eq_true (by assumption)) ?_ | refine N.forkNo (decide_eq_false (by assumption)) ?_ | refine N.forkYes (decide_eq_true (by omega)) ?_ | refine N.forkNo (decide_eq_false (by omega)) ?_ | fail_if_success skip)
    refine N.go ?_
    refine N.callAll (mk_arN 2 (by rfl) (a * d - b * b).natAbs (bzW (a * d - b * b)) (Try.call31) (qs := [.pl (.agg #[.int .i64 a, .int .i64 b, .int .i64 d])]) ⟨.pl rfl, trivial⟩ (fun _ => rfl) (wDet a b d ⟨by omega, by omega⟩ ⟨by omega, by omega⟩ ⟨by omega, by omega⟩)) fun v ms hR => ?_
    obtain ⟨κ, hκ, rfl, rfl⟩ := hR
    repeat' (refine N.go ?_; first | with_reducible refine N.obl (by decide) ?_ | with_reducible refine N.obl (flat_wi _ _ _) ?_ | with_reducible refine N.obl (flat_lim _ _) ?_ | with_reducible refine N.eq ?_ | with_reducible refine N.obl rfl ?_ | with_reducible refine N.obl ⟨by kernel_rfl, by kernel_rfl⟩ ?_ | with_reducible refine N.alt ?_ | with_reducible refine N.forkT ?_ | with_reducible refine N.forkF ?_ | refine N.call (cRMayPoint _ _ _) ?_ | refine N.call (cRWithin _ _ (by decide) _) ?_ | refine N.call (cASign (a * d - b * b) _ _ _ _ hκ _) ?_ | refine N.forkYes (decide_eq_true (by assumption)) ?_ | refine N.forkNo (decide_eq_false (by assumption)) ?_ | refine N.forkYes (decide_eq_true (by omega)) ?_ | refine N.forkNo (decide_eq_false (by omega)) ?_ | fail_if_success skip)
    all_goals rfl
  · have he : decide (mayP x y a b d) = false := by
      rw [decide_eq_false_iff_not]
      intro h
      unfold mayP at h
      exact hr ⟨h.1, h.2.1, h.2.2.1, h.2.2.2.1⟩
    rw [he]
    refine calls_pure (G := tys) w tysOK mixed Try.func17 (by rfl) (by rfl) (by rfl) ?_
    by_cases q1 : withinP 4194304 x y
    · by_cases q2 : 1 ≤ a
      · by_cases q3 : a ≤ 70368744177664
        · by_cases q4 : 1 ≤ d
          · by_cases q5 : d ≤ 70368744177664
            · have q6 : ¬ (-70368744177664 ≤ b ∧ b ≤ 70368744177664) := fun h => hr ⟨q1, ⟨q2, q3⟩, ⟨q4, q5⟩, h⟩
              repeat' (refine N.go ?_; first | with_reducible refine N.obl (by decide) ?_ | with_reducible refine N.obl (flat_wi _ _ _) ?_ | with_reducible refine N.obl (flat_lim _ _) ?_ | with_reducible refine N.eq ?_ | with_reducible refine N.obl rfl ?_ | with_reducible refine N.obl ⟨by kernel_rfl, by kernel_rfl⟩ ?_ | with_reducible refine N.alt ?_ | with_reducible refine N.forkT ?_ | with_reducible refine N.forkF ?_ | refine N.call (cRMayPoint _ _ _) ?_ | refine N.call (cRWithin _ _ (by decide) _) ?_ | refine N.forkYes (decide_eq_true (by assumption)) ?_ | refine N.forkNo (decide_eq_false (by assumption)) ?_ | refine N.forkYes (decide_eq_true (by omega)) ?_ | refine N.forkNo (decide_eq_false (by omega)) ?_ | fail_if_success skip)
              all_goals rfl
            · repeat' (refine N.go ?_; first | with_reducible refine N.obl (by decide) ?_ | with_reducible refine N.obl (flat_wi _ _ _) ?_ | with_reducible refine N.obl (flat_lim _ _) ?_ | with_reducible refine N.eq ?_ | with_reducible refine N.obl rfl ?_ | with_reducible refine N.obl ⟨by kernel_rfl, by kernel_rfl⟩ ?_ | with_reducible refine N.alt ?_ | with_reducible refine N.forkT ?_ | with_reducible refine N.forkF ?_ | refine N.call (cRMayPoint _ _ _) ?_ | refine N.call (cRWithin _ _ (by decide) _) ?_ | refine N.forkYes (decide_eq_true (by assumption)) ?_ | refine N.forkNo (decide_eq_false (by assumption)) ?_ | refine N.forkYes (decide_eq_true (by omega)) ?_ | refine N.forkNo (decide_eq_false (by omega)) ?_ | fail_if_success skip)
              all_goals rfl
          · repeat' (refine N.go ?_; first | with_reducible refine N.obl (by decide) ?_ | with_reducible refine N.obl (flat_wi _ _ _) ?_ | with_reducible refine N.obl (flat_lim _ _) ?_ | with_reducible refine N.eq ?_ | with_reducible refine N.obl rfl ?_ | with_reducible refine N.obl ⟨by kernel_rfl, by kernel_rfl⟩ ?_ | with_reducible refine N.alt ?_ | with_reducible refine N.forkT ?_ | with_reducible refine N.forkF ?_ | refine N.call (cRMayPoint _ _ _) ?_ | refine N.call (cRWithin _ _ (by decide) _) ?_ | refine N.forkYes (decide_eq_true (by assumption)) ?_ | refine N.forkNo (decide_eq_false (by assumption)) ?_ | refine N.forkYes (decide_eq_true (by omega)) ?_ | refine N.forkNo (decide_eq_false (by omega)) ?_ | fail_if_success skip)
            all_goals rfl
        · repeat' (refine N.go ?_; first | with_reducible refine N.obl (by decide) ?_ | with_reducible refine N.obl (flat_wi _ _ _) ?_ | with_reducible refine N.obl (flat_lim _ _) ?_ | with_reducible refine N.eq ?_ | with_reducible refine N.obl rfl ?_ | with_reducible refine N.obl ⟨by kernel_rfl, by kernel_rfl⟩ ?_ | with_reducible refine N.alt ?_ | with_reducible refine N.forkT ?_ | with_reducible refine N.forkF ?_ | refine N.call (cRMayPoint _ _ _) ?_ | refine N.call (cRWithin _ _ (by decide) _) ?_ | refine N.forkYes (decide_eq_true (by assumption)) ?_ | refine N.forkNo (decide_eq_false (by assumption)) ?_ | refine N.forkYes (decide_eq_true (by omega)) ?_ | refine N.forkNo (decide_eq_false (by omega)) ?_ | fail_if_success skip)
          all_goals rfl
      · repeat' (refine N.go ?_; first | with_reducible refine N.obl (by decide) ?_ | with_reducible refine N.obl (flat_wi _ _ _) ?_ | with_reducible refine N.obl (flat_lim _ _) ?_ | with_reducible refine N.eq ?_ | with_reducible refine N.obl rfl ?_ | with_reducible refine N.obl ⟨by kernel_rfl, by kernel_rfl⟩ ?_ | with_reducible refine N.alt ?_ | with_reducible refine N.forkT ?_ | with_reducible refine N.forkF ?_ | refine N.call (cRMayPoint _ _ _) ?_ | refine N.call (cRWithin _ _ (by decide) _) ?_ | refine N.forkYes (decide_eq_true (by assumption)) ?_ | refine N.forkNo (decide_eq_false (by assumption)) ?_ | refine N.forkYes (decide_eq_true (by omega)) ?_ | refine N.forkNo (decide_eq_false (by omega)) ?_ | fail_if_success skip)
        all_goals rfl
    · repeat' (refine N.go ?_; first | with_reducible refine N.obl (by decide) ?_ | with_reducible refine N.obl (flat_wi _ _ _) ?_ | with_reducible refine N.obl (flat_lim _ _) ?_ | with_reducible refine N.eq ?_ | with_reducible refine N.obl rfl ?_ | with_reducible refine N.obl ⟨by kernel_rfl, by kernel_rfl⟩ ?_ | with_reducible refine N.alt ?_ | with_reducible refine N.forkT ?_ | with_reducible refine N.forkF ?_ | refine N.call (cRMayPoint _ _ _) ?_ | refine N.call (cRWithin _ _ (by decide) _) ?_ | refine N.forkYes (decide_eq_true (by assumption)) ?_ | refine N.forkNo (decide_eq_false (by assumption)) ?_ | refine N.forkYes (decide_eq_true (by omega)) ?_ | refine N.forkNo (decide_eq_false (by omega)) ?_ | fail_if_success skip)
      all_goals rfl
theorem cMayE (x y a b d : Int) (h : List (Option Chunk)) : CallOK Try.prog 17 [.agg #[.int .i64 x, .int .i64 y, .int .i64 a, .int .i64 b, .int .i64 d]] h (.bool (decide (mayP x y a b d))) [] [] := call_pure rfl rfl (Try.call17 _) (rmaye_x x y a b d)
end Go.Proofs.Ytpafcfelaaibgaa
