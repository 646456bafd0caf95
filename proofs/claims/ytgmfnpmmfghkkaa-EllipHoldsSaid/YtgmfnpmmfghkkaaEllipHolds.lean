/-
  The statement EllipHolds: for every input the law returns true.
-/
import Derived.Test.YtgmfnpmmfghkkaaElP
import Derived.Test.YtgmfnpmmfghkkaaCut
set_option linter.unusedVariables false
set_option linter.unusedSimpArgs false
namespace Go.Proofs.Ytgmfnpmmfghkkaa.ellipHolds
open Go Go.ChangeShapes Go.WideShapes Go.ChangeAt Go.RowKit Sx

theorem usq_sq {n : Nat} {z : Int} (h : z * z ≤ (n : Int)) : z ≤ (usq n : Nat) ∧ -z ≤ (usq n : Nat) := by
  have h1 := usq_ge n
  have h2 : (n : Int) ≤ ((usq n : Nat) : Int) * ((usq n : Nat) : Int) := by
    have : ((usq n * usq n : Nat) : Int) = ((usq n : Nat) : Int) * ((usq n : Nat) : Int) := Int.natCast_mul _ _
    omega
  exact abs_of_sq (by omega) (by omega)
theorem holds_along {a b d x y p q : Int} (h : holdsP a b d x y) : (p * x + q * y) * (p * x + q * y) ≤ quadZ a b d p q := by
  rw [holds_iff] at h
  have := h p q
  have e1 : (p * x + q * y) = (x * p + y * q) := by grind
  have e2 : quadZ a b d p q = a * (p * p) + 2 * (b * (p * q)) + d * (q * q) := by unfold quadZ; grind
  rw [e1, e2]; exact this
theorem ball_may {x y r : Int} (hw : withinP 4194304 x y) (hr : 1 ≤ r ∧ r ≤ 4194304) : mayP x y (r * r) 0 (r * r) := by
  have k1 := mulB (a := r) (b := r) (m := 4194304) (n := 4194304) (by omega) (by omega)
  have k2 := Int.mul_pos (by omega : 0 < r) (by omega : 0 < r)
  have k3 := Int.mul_pos k2 k2
  exact ⟨hw, by omega, by omega, by omega, by omega⟩
theorem box_may {x y p q : Int} (hw : withinP 4194304 x y) (hp : 1 ≤ p ∧ p ≤ 4194304) (hq : 1 ≤ q ∧ q ≤ 4194304) : mayP x y (2 * p * p) 0 (2 * q * q) := by
  have k1 := mulB (a := 2 * p) (b := p) (m := 8388608) (n := 4194304) (by omega) (by omega)
  have k2 := mulB (a := 2 * q) (b := q) (m := 8388608) (n := 4194304) (by omega) (by omega)
  have k3 := Int.mul_pos (by omega : 0 < 2 * p) (by omega : 0 < p)
  have k4 := Int.mul_pos (by omega : 0 < 2 * q) (by omega : 0 < q)
  have k5 := Int.mul_pos k3 k4
  exact ⟨hw, by omega, by omega, by omega, by omega⟩
theorem ball_in {x y r u v : Int} (hw : withinP 4194304 x y) (hr : 1 ≤ r ∧ r ≤ 4194304) (hf : withinP 1073741824 u v) : inP x y (r * r) 0 (r * r) u v ↔ (u - x) * (u - x) + (v - y) * (v - y) ≤ r * r :=
  ⟨fun h => (ball_iff hr.1).1 h.2.2, fun h => ⟨ball_may hw hr, hf, (ball_iff hr.1).2 h⟩⟩
theorem box_in {x y p q u v : Int} (hw : withinP 4194304 x y) (hp : 1 ≤ p ∧ p ≤ 4194304) (hq : 1 ≤ q ∧ q ≤ 4194304) (hu : u = p ∨ u = -p) (hv : v = q ∨ v = -q) : inP x y (2 * p * p) 0 (2 * q * q) (x + u) (y + v) := by
  refine ⟨box_may hw hp hq, ?_, ?_⟩
  · unfold withinP at hw ⊢; omega
  · rw [show x + u - x = u from by omega, show y + v - y = v from by omega]
    refine box_corner ?_ ?_
    · rcases hu with rfl | rfl
      · rfl
      · grind
    · rcases hv with rfl | rfl
      · rfl
      · grind
theorem in_centre {cx cy a b d : Int} (h : mayP cx cy a b d) : inP cx cy a b d cx cy := by
  refine ⟨h, ?_, ?_⟩
  · have := h.1; unfold withinP at this ⊢; omega
  · rw [Int.sub_self, Int.sub_self]; exact holds_zero (may_psd h)
theorem in_shift {cx cy a b d x y u v : Int} (h : inP cx cy a b d x y) (hw : withinP 4194304 u v) (hc : withinP 4194304 (cx + u) (cy + v)) : inP (cx + u) (cy + v) a b d (x + u) (y + v) := by
  obtain ⟨_, n2, n3⟩ := in_near h
  refine ⟨⟨hc, h.1.2⟩, ?_, ?_⟩
  · unfold withinP at hw ⊢; omega
  · rw [show x + u - (cx + u) = x - cx from by omega, show y + v - (cy + v) = y - cy from by omega]; exact h.2.2
theorem cInT (cx cy a b d x y x' y' : Int) (h : List (Option Chunk)) (hi : inP cx cy a b d x y) (e1 : x' = x) (e2 : y' = y) : CallOK Try.prog 8 [.agg #[.int .i64 cx, .int .i64 cy, .int .i64 a, .int .i64 b, .int .i64 d], .agg #[.int .i64 x', .int .i64 y']] h (.bool true) [] [] := by
  have := cInz cx cy a b d x y x' y' h e1 e2
  rwa [decide_eq_true hi] at this
theorem cRadiusY (cx cy a b d : Int) (h : List (Option Chunk)) (hm : mayP cx cy a b d) : CallOK Try.prog 14 [.agg #[.int .i64 cx, .int .i64 cy, .int .i64 a, .int .i64 b, .int .i64 d]] h (.int .i64 (usq (a + d).toNat : Nat)) [] [] := by
  have := cRadius cx cy a b d h
  rwa [show trP cx cy a b d = a + d from if_pos hm] at this
set_option maxRecDepth 100000 in
set_option maxHeartbeats 8000000 in
theorem walk (cx cy a b d c1 c2 px py hx hy r x y ux uy : Int) (w : World) :
    Calls Try.prog 7 #[.agg #[.int .i64 cx, .int .i64 cy, .int .i64 a, .int .i64 b, .int .i64 d], .agg #[.int .i64 c1, .int .i64 c2], .agg #[.int .i64 px, .int .i64 py], .agg #[.int .i64 hx, .int .i64 hy], .int .i64 r, .int .i64 x, .int .i64 y, .agg #[.int .i64 ux, .int .i64 uy]] w fun o w' => o = .returned (.bool true) ∧ Below w.heap.size w w' := by
  refine calls_parts (G := tys) w tysOK mixed Try.func7 (by rfl) (by rfl) (by rfl) ?_
  refine N.go ?_
  refine N.runs ?_
  refine Runs.step (G := tys) tysOK mixed ?_
  repeat' (refine N.go ?_; first | with_reducible refine N.obl (by decide) ?_ | with_reducible refine N.obl (flat_wi _ _ _) ?_ | with_reducible refine N.obl (flat_lim _ _) ?_ | with_reducible refine N.eq ?_ | with_reducible refine N.obl rfl ?_ | with_reducible refine N.obl ⟨by kernel_rfl, by kernel_rfl⟩ ?_ | with_reducible refine N.forkT ?_ | with_reducible refine N.forkF ?_)
  refine N.go ?_
  refine N.runs ?_
  refine Runs.cut (G := tys) tysOK mixed [] [] ?_ ?_
  · by_cases hb0 : withinP 4194304 c1 c2 ∧ (1 ≤ r ∧ r ≤ 4194304)
    · obtain ⟨hw, hr⟩ := hb0
      by_cases hf : withinP 1073741824 px py
      · have hi := ball_in hw hr hf
        have hw1 := hw
        have hf1 := hf
        unfold withinP at hw1 hf1
        have e1 := i64s (px - c1) (by omega) (by omega)
        have e2 := i64s (py - c2) (by omega) (by omega)
        have k1 := mulB (a := px - c1) (b := px - c1) (m := 1077936128) (n := 1077936128) (by omega) (by omega)
        have k2 := mulB (a := py - c2) (b := py - c2) (m := 1077936128) (n := 1077936128) (by omega) (by omega)
        have k3 := mulB (a := r) (b := r) (m := 4194304) (n := 4194304) (by omega) (by omega)
        have q1 := i64s ((px - c1) * (px - c1)) (by omega) (by omega)
        have q2 := i64s ((py - c2) * (py - c2)) (by omega) (by omega)
        have q3 := i64s ((px - c1) * (px - c1) + (py - c2) * (py - c2)) (by omega) (by omega)
        have q4 := i64s (r * r) (by omega) (by omega)
        repeat' (refine N.go ?_; first | with_reducible refine N.obl (by decide) ?_ | with_reducible refine N.obl (flat_wi _ _ _) ?_ | with_reducible refine N.obl (flat_lim _ _) ?_ | with_reducible refine N.eq ?_ | with_reducible refine N.obl rfl ?_ | with_reducible refine N.obl ⟨by kernel_rfl, by kernel_rfl⟩ ?_ | with_reducible refine N.forkT ?_ | with_reducible refine N.forkF ?_ | with_reducible refine N.wk ?_ | exact N.true | with_reducible refine N.obl rfl ?_ | with_reducible refine N.obl (ChunkLe.refl _) ?_ | refine N.obl True.intro ?_ | refine N.obl (show filB _ _ = true from rfl) ?_ | refine N.obl (safe_agg (by rfl)) ?_ | refine N.obl (safe_row rfl (by rfl)) ?_ | with_reducible refine N.call (cBallY _ _ _ _ hw hr) ?_ | with_reducible refine N.call (cBallN _ _ _ _ hn) ?_ | with_reducible refine N.call (cIn4 _ _ _ _ _ _ _ _) ?_ | refine N.forkYes (by rw [decide_eq_true_eq]; omega) ?_ | refine N.forkNo (by rw [e1, e2, q1, q2, q3, q4, decide_eq_decide.2 hi, bne_self_eq_false]) ?_ | refine N.forkNo (by decide) ?_ | refine N.forkYes (by decide) ?_)
      · repeat' (refine N.go ?_; first | with_reducible refine N.obl (by decide) ?_ | with_reducible refine N.obl (flat_wi _ _ _) ?_ | with_reducible refine N.obl (flat_lim _ _) ?_ | with_reducible refine N.eq ?_ | with_reducible refine N.obl rfl ?_ | with_reducible refine N.obl ⟨by kernel_rfl, by kernel_rfl⟩ ?_ | with_reducible refine N.forkT ?_ | with_reducible refine N.forkF ?_ | with_reducible refine N.wk ?_ | exact N.true | with_reducible refine N.obl rfl ?_ | with_reducible refine N.obl (ChunkLe.refl _) ?_ | refine N.obl True.intro ?_ | refine N.obl (show filB _ _ = true from rfl) ?_ | refine N.obl (safe_agg (by rfl)) ?_ | refine N.obl (safe_row rfl (by rfl)) ?_ | with_reducible refine N.call (cBallY _ _ _ _ hw hr) ?_ | with_reducible refine N.call (cBallN _ _ _ _ hn) ?_ | with_reducible refine N.call (cIn4 _ _ _ _ _ _ _ _) ?_ | refine N.forkNo (by decide) ?_ | refine N.forkYes (by decide) ?_ | with_reducible refine N.fork (fun hb => ?_) (fun hb => ?_))
        all_goals (exfalso; unfold withinP at hf; simp only [decide_eq_true_eq] at *; omega)
    · have hn := hb0
      repeat' (refine N.go ?_; first | with_reducible refine N.obl (by decide) ?_ | with_reducible refine N.obl (flat_wi _ _ _) ?_ | with_reducible refine N.obl (flat_lim _ _) ?_ | with_reducible refine N.eq ?_ | with_reducible refine N.obl rfl ?_ | with_reducible refine N.obl ⟨by kernel_rfl, by kernel_rfl⟩ ?_ | with_reducible refine N.forkT ?_ | with_reducible refine N.forkF ?_ | with_reducible refine N.wk ?_ | exact N.true | with_reducible refine N.obl rfl ?_ | with_reducible refine N.obl (ChunkLe.refl _) ?_ | refine N.obl True.intro ?_ | refine N.obl (show filB _ _ = true from rfl) ?_ | refine N.obl (safe_agg (by rfl)) ?_ | refine N.obl (safe_row rfl (by rfl)) ?_ | with_reducible refine N.call (cBallY _ _ _ _ hw hr) ?_ | with_reducible refine N.call (cBallN _ _ _ _ hn) ?_ | with_reducible refine N.call (cIn4 _ _ _ _ _ _ _ _) ?_ | refine N.forkNo (by decide) ?_ | refine N.forkYes (by decide) ?_)
  · refine N.go ?_
    refine N.runs ?_
    refine Runs.cut (G := tys) tysOK mixed [] [] ?_ ?_
    · by_cases hb0 : withinP 4194304 c1 c2 ∧ (1 ≤ x ∧ x ≤ 4194304) ∧ (1 ≤ y ∧ y ≤ 4194304)
      · obtain ⟨hw, hr, hs⟩ := hb0
        have hw1 := hw
        unfold withinP at hw1
        have i1 := box_in hw hr hs (.inl rfl) (.inl rfl)
        have i2 := box_in hw hr hs (.inr rfl) (.inl rfl)
        have i3 := box_in hw hr hs (.inl rfl) (.inr rfl)
        have i4 := box_in hw hr hs (.inr rfl) (.inr rfl)
        have i5 := in_centre (box_may hw hr hs)
        have n1 : IntKind.i64.wrap (0 - x) = -x := by rw [i64s _ (by omega) (by omega)]; omega
        have n2 : IntKind.i64.wrap (0 - y) = -y := by rw [i64s _ (by omega) (by omega)]; omega
        have e1 := i64s (c1 + x) (by omega) (by omega)
        have e2 := i64s (c2 + y) (by omega) (by omega)
        have e3 : IntKind.i64.wrap (c1 + IntKind.i64.wrap (0 - x)) = c1 + -x := by rw [n1]; exact i64s _ (by omega) (by omega)
        have e4 : IntKind.i64.wrap (c2 + IntKind.i64.wrap (0 - y)) = c2 + -y := by rw [n2]; exact i64s _ (by omega) (by omega)
        have e5 : IntKind.i64.wrap (c1 + 0) = c1 := by rw [i64s _ (by omega) (by omega)]; omega
        have e6 : IntKind.i64.wrap (c2 + 0) = c2 := by rw [i64s _ (by omega) (by omega)]; omega
        repeat' (refine N.go ?_; first | with_reducible refine N.obl (by decide) ?_ | with_reducible refine N.obl (flat_wi _ _ _) ?_ | with_reducible refine N.obl (flat_lim _ _) ?_ | with_reducible refine N.eq ?_ | with_reducible refine N.obl rfl ?_ | with_reducible refine N.obl ⟨by kernel_rfl, by kernel_rfl⟩ ?_ | with_reducible refine N.forkT ?_ | with_reducible refine N.forkF ?_ | with_reducible refine N.wk ?_ | exact N.true | with_reducible refine N.obl rfl ?_ | with_reducible refine N.obl (ChunkLe.refl _) ?_ | refine N.obl True.intro ?_ | refine N.obl (show filB _ _ = true from rfl) ?_ | refine N.obl (safe_agg (by rfl)) ?_ | refine N.obl (safe_row rfl (by rfl)) ?_ | with_reducible refine N.call (cBoxY _ _ _ _ _ hw hr hs) ?_ | with_reducible refine N.call (cBoxN _ _ _ _ _ hn) ?_ | refine N.roll 6 ?_ | refine N.idx 0 0 (by decide) (by decide) ?_ | refine N.idx 1 0 (by decide) (by decide) ?_ | refine N.idx 2 0 (by decide) (by decide) ?_ | refine N.idx 3 0 (by decide) (by decide) ?_ | refine N.idx 4 0 (by decide) (by decide) ?_ | refine N.call (cInT _ _ _ _ _ _ _ _ _ _ i1 e1 e2) ?_ | refine N.call (cInT _ _ _ _ _ _ _ _ _ _ i2 e3 e2) ?_ | refine N.call (cInT _ _ _ _ _ _ _ _ _ _ i3 e1 e4) ?_ | refine N.call (cInT _ _ _ _ _ _ _ _ _ _ i4 e3 e4) ?_ | refine N.call (cInT _ _ _ _ _ _ _ _ _ _ i5 e5 e6) ?_ | refine N.forkNo (by decide) ?_ | refine N.forkYes (by decide) ?_)
      · have hn := hb0
        repeat' (refine N.go ?_; first | with_reducible refine N.obl (by decide) ?_ | with_reducible refine N.obl (flat_wi _ _ _) ?_ | with_reducible refine N.obl (flat_lim _ _) ?_ | with_reducible refine N.eq ?_ | with_reducible refine N.obl rfl ?_ | with_reducible refine N.obl ⟨by kernel_rfl, by kernel_rfl⟩ ?_ | with_reducible refine N.forkT ?_ | with_reducible refine N.forkF ?_ | with_reducible refine N.wk ?_ | exact N.true | with_reducible refine N.obl rfl ?_ | with_reducible refine N.obl (ChunkLe.refl _) ?_ | refine N.obl True.intro ?_ | refine N.obl (show filB _ _ = true from rfl) ?_ | refine N.obl (safe_agg (by rfl)) ?_ | refine N.obl (safe_row rfl (by rfl)) ?_ | with_reducible refine N.call (cBoxY _ _ _ _ _ hw hr hs) ?_ | with_reducible refine N.call (cBoxN _ _ _ _ _ hn) ?_ | refine N.roll 6 ?_ | refine N.idx 0 0 (by decide) (by decide) ?_ | refine N.idx 1 0 (by decide) (by decide) ?_ | refine N.idx 2 0 (by decide) (by decide) ?_ | refine N.idx 3 0 (by decide) (by decide) ?_ | refine N.idx 4 0 (by decide) (by decide) ?_ | refine N.call (cInT _ _ _ _ _ _ _ _ _ _ i1 e1 e2) ?_ | refine N.call (cInT _ _ _ _ _ _ _ _ _ _ i2 e3 e2) ?_ | refine N.call (cInT _ _ _ _ _ _ _ _ _ _ i3 e1 e4) ?_ | refine N.call (cInT _ _ _ _ _ _ _ _ _ _ i4 e3 e4) ?_ | refine N.call (cInT _ _ _ _ _ _ _ _ _ _ i5 e5 e6) ?_ | refine N.forkNo (by decide) ?_ | refine N.forkYes (by decide) ?_)
    · refine N.go ?_
      refine N.runs ?_
      refine Runs.eval tysOK mixed ?_
      by_cases h1 : inP cx cy a b d px py
      · obtain ⟨⟨s1, s2⟩, n2, n3⟩ := in_near h1
        have hm := h1.1
        have hm1 := hm
        unfold mayP withinP at hm1
        have t1 := usq_sq (n := a.toNat) (z := px - cx) (by omega)
        have t2 := usq_sq (n := d.toNat) (z := py - cy) (by omega)
        have t3 := usq_ge (a + d).toNat
        have t4 : usq (a + d).toNat ≤ 12000000 := usq_le (by omega)
        have k3 := mulB (a := ((usq (a + d).toNat : Nat) : Int)) (b := ((usq (a + d).toNat : Nat) : Int)) (m := 12000000) (n := 12000000) (by omega) (by omega)
        have t5 : ((usq (a + d).toNat * usq (a + d).toNat : Nat) : Int) = ((usq (a + d).toNat : Nat) : Int) * ((usq (a + d).toNat : Nat) : Int) := Int.natCast_mul _ _
        have t6 : (px - cx) * (px - cx) + (py - cy) * (py - cy) ≤ ((usq (a + d).toNat : Nat) : Int) * ((usq (a + d).toNat : Nat) : Int) := by
          rw [← t5]
          have : ((a + d).toNat : Int) ≤ ((usq (a + d).toNat * usq (a + d).toNat : Nat) : Int) := by exact_mod_cast t3
          omega
        have eD := i64s (px - cx) (by omega) (by omega)
        have eE := i64s (py - cy) (by omega) (by omega)
        have nD : IntKind.i64.wrap (0 - (px - cx)) = -(px - cx) := by rw [i64s _ (by omega) (by omega)]; omega
        have nE : IntKind.i64.wrap (0 - (py - cy)) = -(py - cy) := by rw [i64s _ (by omega) (by omega)]; omega
        have g1 := sq_nn (px - cx)
        have g2 := sq_nn (py - cy)
        have qD := i64s ((px - cx) * (px - cx)) (by omega) (by omega)
        have qE := i64s ((py - cy) * (py - cy)) (by omega) (by omega)
        have qS := i64s ((px - cx) * (px - cx) + (py - cy) * (py - cy)) (by omega) (by omega)
        have qN := i64s (((usq (a + d).toNat : Nat) : Int) * ((usq (a + d).toNat : Nat) : Int)) (by omega) (by omega)
        clear t3 t5
        have ic := in_centre hm
        by_cases hA : withinP 16777216 hx hy
        · have hA1 := hA
          unfold withinP at hA1
          have r1 := mulB (a := hx) (b := px - cx) (m := 16777216) (n := 8388608) (by omega) (by omega)
          have r2 := mulB (a := hy) (b := py - cy) (m := 16777216) (n := 8388608) (by omega) (by omega)
          have w1 := i64s (hx * (px - cx)) (by omega) (by omega)
          have w2 := i64s (hy * (py - cy)) (by omega) (by omega)
          have w3 := i64s (hx * (px - cx) + hy * (py - cy)) (by omega) (by omega)
          have w4 : IntKind.i64.wrap (0 - (hx * (px - cx) + hy * (py - cy))) = -(hx * (px - cx) + hy * (py - cy)) := by rw [i64s _ (by omega) (by omega)]; omega
          have qn := quad_nn (x := hx) (y := hy) hm1.2.1.1 (Int.le_of_lt hm1.2.2.2.2)
          have w5 := usq_sq (n := (quadZ a b d hx hy).toNat) (z := hx * (px - cx) + hy * (py - cy)) (by rw [Int.toNat_of_nonneg qn]; exact holds_along h1.2.2)
          by_cases hu : withinP 4194304 ux uy
          · by_cases hc : withinP 4194304 (cx + ux) (cy + uy)
            · have is := in_shift h1 hu hc
              have hu1 := hu
              unfold withinP at hu1
              have v1 := i64s (px + ux) (by omega) (by omega)
              have v2 := i64s (py + uy) (by omega) (by omega)
              repeat' (refine N.go ?_; first | with_reducible refine N.obl (by decide) ?_ | with_reducible refine N.obl (flat_wi _ _ _) ?_ | with_reducible refine N.obl (flat_lim _ _) ?_ | with_reducible refine N.eq ?_ | with_reducible refine N.obl rfl ?_ | with_reducible refine N.obl ⟨by kernel_rfl, by kernel_rfl⟩ ?_ | with_reducible refine N.forkT ?_ | with_reducible refine N.forkF ?_ | with_reducible refine N.call (cHullY _ _ _ _ _ _ hm) ?_ | with_reducible refine N.call (cRadiusY _ _ _ _ _ _ hm) ?_ | with_reducible refine N.call (cAlongY _ _ _ _ _ _ _ _ hm hA) ?_ | with_reducible refine N.call (cAlongN _ _ _ _ _ _ _ _ hAn) ?_ | with_reducible refine N.call (cShiftY _ _ _ _ _ _ _ _ hm hu hc) ?_ | with_reducible refine N.call (cShiftO _ _ _ _ _ _ _ _ hm hu hc) ?_ | with_reducible refine N.call (cShiftN _ _ _ _ _ _ _ _ hun) ?_ | refine N.call (cInT _ _ _ _ _ _ _ _ _ _ is v1 v2) ?_ | with_reducible refine N.call (cInT _ _ _ _ _ _ _ _ _ _ ic rfl rfl) ?_ | with_reducible refine N.call (cInT _ _ _ _ _ _ _ _ _ _ h1 rfl rfl) ?_ | with_reducible refine N.call (cAwake4 _) ?_ | refine N.forkNo (by decide) ?_ | refine N.forkYes (by decide) ?_ | refine N.forkNo (by rw [decide_eq_false_iff_not]; simp only [eD, eE, nD, nE, qD, qE, qS, qN]; omega) ?_ | refine N.forkNo (by rw [decide_eq_false_iff_not]; simp only [eD, eE, w1, w2, w3, w4]; unfold alongN; omega) ?_)
              all_goals rfl
            · skip
              repeat' (refine N.go ?_; first | with_reducible refine N.obl (by decide) ?_ | with_reducible refine N.obl (flat_wi _ _ _) ?_ | with_reducible refine N.obl (flat_lim _ _) ?_ | with_reducible refine N.eq ?_ | with_reducible refine N.obl rfl ?_ | with_reducible refine N.obl ⟨by kernel_rfl, by kernel_rfl⟩ ?_ | with_reducible refine N.forkT ?_ | with_reducible refine N.forkF ?_ | with_reducible refine N.call (cHullY _ _ _ _ _ _ hm) ?_ | with_reducible refine N.call (cRadiusY _ _ _ _ _ _ hm) ?_ | with_reducible refine N.call (cAlongY _ _ _ _ _ _ _ _ hm hA) ?_ | with_reducible refine N.call (cAlongN _ _ _ _ _ _ _ _ hAn) ?_ | with_reducible refine N.call (cShiftY _ _ _ _ _ _ _ _ hm hu hc) ?_ | with_reducible refine N.call (cShiftO _ _ _ _ _ _ _ _ hm hu hc) ?_ | with_reducible refine N.call (cShiftN _ _ _ _ _ _ _ _ hun) ?_ | refine N.call (cInT _ _ _ _ _ _ _ _ _ _ is v1 v2) ?_ | with_reducible refine N.call (cInT _ _ _ _ _ _ _ _ _ _ ic rfl rfl) ?_ | with_reducible refine N.call (cInT _ _ _ _ _ _ _ _ _ _ h1 rfl rfl) ?_ | with_reducible refine N.call (cAwake4 _) ?_ | refine N.forkNo (by decide) ?_ | refine N.forkYes (by decide) ?_ | refine N.forkNo (by rw [decide_eq_false_iff_not]; simp only [eD, eE, nD, nE, qD, qE, qS, qN]; omega) ?_ | refine N.forkNo (by rw [decide_eq_false_iff_not]; simp only [eD, eE, w1, w2, w3, w4]; unfold alongN; omega) ?_)
              all_goals rfl
          · have hun : ¬ (mayP cx cy a b d ∧ withinP 4194304 ux uy) := fun h => hu h.2
            repeat' (refine N.go ?_; first | with_reducible refine N.obl (by decide) ?_ | with_reducible refine N.obl (flat_wi _ _ _) ?_ | with_reducible refine N.obl (flat_lim _ _) ?_ | with_reducible refine N.eq ?_ | with_reducible refine N.obl rfl ?_ | with_reducible refine N.obl ⟨by kernel_rfl, by kernel_rfl⟩ ?_ | with_reducible refine N.forkT ?_ | with_reducible refine N.forkF ?_ | with_reducible refine N.call (cHullY _ _ _ _ _ _ hm) ?_ | with_reducible refine N.call (cRadiusY _ _ _ _ _ _ hm) ?_ | with_reducible refine N.call (cAlongY _ _ _ _ _ _ _ _ hm hA) ?_ | with_reducible refine N.call (cAlongN _ _ _ _ _ _ _ _ hAn) ?_ | with_reducible refine N.call (cShiftY _ _ _ _ _ _ _ _ hm hu hc) ?_ | with_reducible refine N.call (cShiftO _ _ _ _ _ _ _ _ hm hu hc) ?_ | with_reducible refine N.call (cShiftN _ _ _ _ _ _ _ _ hun) ?_ | refine N.call (cInT _ _ _ _ _ _ _ _ _ _ is v1 v2) ?_ | with_reducible refine N.call (cInT _ _ _ _ _ _ _ _ _ _ ic rfl rfl) ?_ | with_reducible refine N.call (cInT _ _ _ _ _ _ _ _ _ _ h1 rfl rfl) ?_ | with_reducible refine N.call (cAwake4 _) ?_ | refine N.forkNo (by decide) ?_ | refine N.forkYes (by decide) ?_ | refine N.forkNo (by rw [decide_eq_false_iff_not]; simp only [eD, eE, nD, nE, qD, qE, qS, qN]; omega) ?_ | refine N.forkNo (by rw [decide_eq_false_iff_not]; simp only [eD, eE, w1, w2, w3, w4]; unfold alongN; omega) ?_)
            all_goals rfl
        · have hAn : ¬ (mayP cx cy a b d ∧ withinP 16777216 hx hy) := fun h => hA h.2
          by_cases hu : withinP 4194304 ux uy
          · by_cases hc : withinP 4194304 (cx + ux) (cy + uy)
            · have is := in_shift h1 hu hc
              have hu1 := hu
              unfold withinP at hu1
              have v1 := i64s (px + ux) (by omega) (by omega)
              have v2 := i64s (py + uy) (by omega) (by omega)
              repeat' (refine N.go ?_; first | with_reducible refine N.obl (by decide) ?_ | with_reducible refine N.obl (flat_wi _ _ _) ?_ | with_reducible refine N.obl (flat_lim _ _) ?_ | with_reducible refine N.eq ?_ | with_reducible refine N.obl rfl ?_ | with_reducible refine N.obl ⟨by kernel_rfl, by kernel_rfl⟩ ?_ | with_reducible refine N.forkT ?_ | with_reducible refine N.forkF ?_ | with_reducible refine N.call (cHullY _ _ _ _ _ _ hm) ?_ | with_reducible refine N.call (cRadiusY _ _ _ _ _ _ hm) ?_ | with_reducible refine N.call (cAlongY _ _ _ _ _ _ _ _ hm hA) ?_ | with_reducible refine N.call (cAlongN _ _ _ _ _ _ _ _ hAn) ?_ | with_reducible refine N.call (cShiftY _ _ _ _ _ _ _ _ hm hu hc) ?_ | with_reducible refine N.call (cShiftO _ _ _ _ _ _ _ _ hm hu hc) ?_ | with_reducible refine N.call (cShiftN _ _ _ _ _ _ _ _ hun) ?_ | refine N.call (cInT _ _ _ _ _ _ _ _ _ _ is v1 v2) ?_ | with_reducible refine N.call (cInT _ _ _ _ _ _ _ _ _ _ ic rfl rfl) ?_ | with_reducible refine N.call (cInT _ _ _ _ _ _ _ _ _ _ h1 rfl rfl) ?_ | with_reducible refine N.call (cAwake4 _) ?_ | refine N.forkNo (by decide) ?_ | refine N.forkYes (by decide) ?_ | refine N.forkNo (by rw [decide_eq_false_iff_not]; simp only [eD, eE, nD, nE, qD, qE, qS, qN]; omega) ?_ | refine N.forkNo (by rw [decide_eq_false_iff_not]; simp only [eD, eE, w1, w2, w3, w4]; unfold alongN; omega) ?_)
              all_goals rfl
            · skip
              repeat' (refine N.go ?_; first | with_reducible refine N.obl (by decide) ?_ | with_reducible refine N.obl (flat_wi _ _ _) ?_ | with_reducible refine N.obl (flat_lim _ _) ?_ | with_reducible refine N.eq ?_ | with_reducible refine N.obl rfl ?_ | with_reducible refine N.obl ⟨by kernel_rfl, by kernel_rfl⟩ ?_ | with_reducible refine N.forkT ?_ | with_reducible refine N.forkF ?_ | with_reducible refine N.call (cHullY _ _ _ _ _ _ hm) ?_ | with_reducible refine N.call (cRadiusY _ _ _ _ _ _ hm) ?_ | with_reducible refine N.call (cAlongY _ _ _ _ _ _ _ _ hm hA) ?_ | with_reducible refine N.call (cAlongN _ _ _ _ _ _ _ _ hAn) ?_ | with_reducible refine N.call (cShiftY _ _ _ _ _ _ _ _ hm hu hc) ?_ | with_reducible refine N.call (cShiftO _ _ _ _ _ _ _ _ hm hu hc) ?_ | with_reducible refine N.call (cShiftN _ _ _ _ _ _ _ _ hun) ?_ | refine N.call (cInT _ _ _ _ _ _ _ _ _ _ is v1 v2) ?_ | with_reducible refine N.call (cInT _ _ _ _ _ _ _ _ _ _ ic rfl rfl) ?_ | with_reducible refine N.call (cInT _ _ _ _ _ _ _ _ _ _ h1 rfl rfl) ?_ | with_reducible refine N.call (cAwake4 _) ?_ | refine N.forkNo (by decide) ?_ | refine N.forkYes (by decide) ?_ | refine N.forkNo (by rw [decide_eq_false_iff_not]; simp only [eD, eE, nD, nE, qD, qE, qS, qN]; omega) ?_ | refine N.forkNo (by rw [decide_eq_false_iff_not]; simp only [eD, eE, w1, w2, w3, w4]; unfold alongN; omega) ?_)
              all_goals rfl
          · have hun : ¬ (mayP cx cy a b d ∧ withinP 4194304 ux uy) := fun h => hu h.2
            repeat' (refine N.go ?_; first | with_reducible refine N.obl (by decide) ?_ | with_reducible refine N.obl (flat_wi _ _ _) ?_ | with_reducible refine N.obl (flat_lim _ _) ?_ | with_reducible refine N.eq ?_ | with_reducible refine N.obl rfl ?_ | with_reducible refine N.obl ⟨by kernel_rfl, by kernel_rfl⟩ ?_ | with_reducible refine N.forkT ?_ | with_reducible refine N.forkF ?_ | with_reducible refine N.call (cHullY _ _ _ _ _ _ hm) ?_ | with_reducible refine N.call (cRadiusY _ _ _ _ _ _ hm) ?_ | with_reducible refine N.call (cAlongY _ _ _ _ _ _ _ _ hm hA) ?_ | with_reducible refine N.call (cAlongN _ _ _ _ _ _ _ _ hAn) ?_ | with_reducible refine N.call (cShiftY _ _ _ _ _ _ _ _ hm hu hc) ?_ | with_reducible refine N.call (cShiftO _ _ _ _ _ _ _ _ hm hu hc) ?_ | with_reducible refine N.call (cShiftN _ _ _ _ _ _ _ _ hun) ?_ | refine N.call (cInT _ _ _ _ _ _ _ _ _ _ is v1 v2) ?_ | with_reducible refine N.call (cInT _ _ _ _ _ _ _ _ _ _ ic rfl rfl) ?_ | with_reducible refine N.call (cInT _ _ _ _ _ _ _ _ _ _ h1 rfl rfl) ?_ | with_reducible refine N.call (cAwake4 _) ?_ | refine N.forkNo (by decide) ?_ | refine N.forkYes (by decide) ?_ | refine N.forkNo (by rw [decide_eq_false_iff_not]; simp only [eD, eE, nD, nE, qD, qE, qS, qN]; omega) ?_ | refine N.forkNo (by rw [decide_eq_false_iff_not]; simp only [eD, eE, w1, w2, w3, w4]; unfold alongN; omega) ?_)
            all_goals rfl
      · repeat' (refine N.go ?_; first | with_reducible refine N.obl (by decide) ?_ | with_reducible refine N.obl (flat_wi _ _ _) ?_ | with_reducible refine N.obl (flat_lim _ _) ?_ | with_reducible refine N.eq ?_ | with_reducible refine N.obl rfl ?_ | with_reducible refine N.obl ⟨by kernel_rfl, by kernel_rfl⟩ ?_ | with_reducible refine N.forkT ?_ | with_reducible refine N.forkF ?_ | with_reducible refine N.call (cIn4 _ _ _ _ _ _ _ _) ?_ | with_reducible refine N.call (cAwake4 _) ?_ | refine N.forkNo (by rw [decide_eq_true (by assumption)]; rfl) ?_ | refine N.forkYes (by rw [decide_eq_false (by assumption)]; rfl) ?_ | refine N.forkYes (decide_eq_true (by assumption)) ?_ | refine N.forkNo (decide_eq_false (by assumption)) ?_ | refine N.forkNo (by decide) ?_ | refine N.forkYes (by decide) ?_)
        all_goals rfl
set_option maxRecDepth 100000 in
theorem open_ell {H : Type} {enc : TypeId × Value → H} {W : World} {r : Reach} {base : Nat} {v : Value} {d : DataW H} {p : List MemPlace}
    (hv : Value.okWide Try.prog W r base 27 v) (h : DataW.Trod enc Try.prog W 0 (fun _ => true) true 27 v d p) :
    ∃ x0 x1 x2 x3 x4 : Int, v = .agg #[.int .i64 x0, .int .i64 x1, .int .i64 x2, .int .i64 x3, .int .i64 x4] := by
  obtain ⟨cs, rfl, hs⟩ := okWide_struct Try.underlying27 hv
  have hs2 : cs.size = 5 := hs.trans (by kernel_rfl)
  obtain ⟨l⟩ := cs
  match l, hs2 with
  | [c0, c1, c2, c3, c4], _ =>
    obtain ⟨fuel, hf⟩ := h
    have hf' : DataW.trod enc Try.prog W 0 (fun _ => true) true fuel 27 [c0, c1, c2, c3, c4] = some (d, p) := hf
    obtain ⟨k0, w0⟩ := leaf_int (d := 3) (l := 2) (j := 0) (u := c0) (by kernel_rfl) (@Try.underlying2) rfl hf'
    obtain ⟨k1, w1⟩ := leaf_int (d := 3) (l := 2) (j := 1) (u := c1) (by kernel_rfl) (@Try.underlying2) rfl hf'
    obtain ⟨k2, w2⟩ := leaf_int (d := 3) (l := 2) (j := 2) (u := c2) (by kernel_rfl) (@Try.underlying2) rfl hf'
    obtain ⟨k3, w3⟩ := leaf_int (d := 3) (l := 2) (j := 3) (u := c3) (by kernel_rfl) (@Try.underlying2) rfl hf'
    obtain ⟨k4, w4⟩ := leaf_int (d := 3) (l := 2) (j := 4) (u := c4) (by kernel_rfl) (@Try.underlying2) rfl hf'
    exact ⟨_, _, _, _, _, by rw [k0, k1, k2, k3, k4]⟩
set_option maxRecDepth 100000 in
theorem open_pt {H : Type} {enc : TypeId × Value → H} {W : World} {r : Reach} {base : Nat} {v : Value} {d : DataW H} {p : List MemPlace}
    (hv : Value.okWide Try.prog W r base 23 v) (h : DataW.Trod enc Try.prog W 0 (fun _ => true) true 23 v d p) :
    ∃ x0 x1 : Int, v = .agg #[.int .i64 x0, .int .i64 x1] := by
  obtain ⟨cs, rfl, hs⟩ := okWide_struct Try.underlying23 hv
  have hs2 : cs.size = 2 := hs.trans (by kernel_rfl)
  obtain ⟨l⟩ := cs
  match l, hs2 with
  | [c0, c1], _ =>
    obtain ⟨fuel, hf⟩ := h
    have hf' : DataW.trod enc Try.prog W 0 (fun _ => true) true fuel 23 [c0, c1] = some (d, p) := hf
    obtain ⟨k0, w0⟩ := leaf_int (d := 3) (l := 2) (j := 0) (u := c0) (by kernel_rfl) (@Try.underlying2) rfl hf'
    obtain ⟨k1, w1⟩ := leaf_int (d := 3) (l := 2) (j := 1) (u := c1) (by kernel_rfl) (@Try.underlying2) rfl hf'
    exact ⟨_, _, by rw [k0, k1]⟩
set_option maxRecDepth 100000 in
theorem lifted (os : Os) (started : os.Started) (H : Type) (enc : TypeId × Value → H) :
    ReturnsInHanded {} Try.checked os 7 .any (Rows.ellipHoldsSpec.pre6 enc Try.prog Try.f7 Rows.ellipHoldsRow.domain false) (Rows.ellipHoldsSpec.post enc Try.prog Try.f7 false true false false) := by
  refine law_lifted (C := Try.checked) (tb := 4) Try.own started (by kernel_rfl) Try.func7 Try.laidOut (by kernel_rfl) rfl Try.underlying4 rfl
    (fun ds hds => by match ds, hds with | [_, _, _, _, _, _, _, _], _ => rfl)
    (ChangeSpec.witness6 (enc := enc) (C := Try.checked) false ⟨#[], #[.agg #[.int .i64 0, .int .i64 0, .int .i64 0, .int .i64 0, .int .i64 0], .agg #[.int .i64 0, .int .i64 0], .agg #[.int .i64 0, .int .i64 0], .agg #[.int .i64 0, .int .i64 0], .int .i64 0, .int .i64 0, .int .i64 0, .agg #[.int .i64 0, .int .i64 0]], []⟩ 8 (by kernel_rfl) (by kernel_rfl) (by kernel_rfl) (by kernel_rfl)) ?_
  intro W base args ds p hval0 hA0 hsz0
  have hval : ∀ (j : Nat) t v, Try.f7.params[j]? = some t → args[j]? = some v → Value.okWide Try.prog W .any base t v := hval0
  have hA : DataW.TrodAll enc Try.prog W 0 (fun _ => true) true Try.f7.params.toList args.toList ds p := hA0
  have hsz : (DataW.weightsEach Try.prog Try.f7.params.toList ds).all (· ≤ reachBytes) = true := hsz0
  rw [Try.params7] at hA hval hsz
  obtain ⟨v0, vs0, d0, ds0, p0, q0, hargs, rfl, rfl, h0, r0⟩ := trodAll_cons hA
  obtain ⟨v1, vs1, d1, ds1, p1, q1, rfl, rfl, rfl, h1, r1⟩ := trodAll_cons r0
  obtain ⟨v2, vs2, d2, ds2, p2, q2, rfl, rfl, rfl, h2, r2⟩ := trodAll_cons r1
  obtain ⟨v3, vs3, d3, ds3, p3, q3, rfl, rfl, rfl, h3, r3⟩ := trodAll_cons r2
  obtain ⟨v4, vs4, d4, ds4, p4, q4, rfl, rfl, rfl, h4, r4⟩ := trodAll_cons r3
  obtain ⟨v5, vs5, d5, ds5, p5, q5, rfl, rfl, rfl, h5, r5⟩ := trodAll_cons r4
  obtain ⟨v6, vs6, d6, ds6, p6, q6, rfl, rfl, rfl, h6, r6⟩ := trodAll_cons r5
  obtain ⟨v7, vs7, d7, ds7, p7, q7, rfl, rfl, rfl, h7, r7⟩ := trodAll_cons r6
  obtain ⟨rfl, rfl, rfl⟩ := trodAll_nil r7
  obtain rfl : args = #[v0, v1, v2, v3, v4, v5, v6, v7] := by cases args; simp_all
  obtain ⟨f0_0, f0_1, f0_2, f0_3, f0_4, rfl⟩ := open_ell (hval 0 _ v0 rfl rfl) h0
  obtain ⟨f1_0, f1_1, rfl⟩ := open_pt (hval 1 _ v1 rfl rfl) h1
  obtain ⟨f2_0, f2_1, rfl⟩ := open_pt (hval 2 _ v2 rfl rfl) h2
  obtain ⟨f3_0, f3_1, rfl⟩ := open_pt (hval 3 _ v3 rfl rfl) h3
  obtain ⟨a4, rfl, rfl, rfl, w4⟩ := open_int Try.underlying2 (hval 4 _ v4 rfl rfl) h4
  obtain ⟨a5, rfl, rfl, rfl, w5⟩ := open_int Try.underlying2 (hval 5 _ v5 rfl rfl) h5
  obtain ⟨a6, rfl, rfl, rfl, w6⟩ := open_int Try.underlying2 (hval 6 _ v6 rfl rfl) h6
  obtain ⟨f7_0, f7_1, rfl⟩ := open_pt (hval 7 _ v7 rfl rfl) h7
  exact walk f0_0 f0_1 f0_2 f0_3 f0_4 f1_0 f1_1 f2_0 f2_1 f3_0 f3_1 a4 a5 a6 f7_0 f7_1 W

theorem proved : Rows.EllipHoldsSaid :=
  OpenClaim.holds_of_wide 7 Try.f7 rfl rfl rfl rfl rfl rfl rfl ⟨rfl, rfl, rfl, rfl, rfl⟩ rfl rfl rfl rfl rfl (by kernel_rfl) Try.func7 (by kernel_rfl)
    (of_decide_eq_true (by kernel_rfl)) (by unfold Func.isWrapper; rw [if_neg (by decide +kernel)]; exact ⟨rfl, rfl⟩)
    (fun os started H enc _ => lifted os started H enc)
#print axioms proved
end Go.Proofs.Ytgmfnpmmfghkkaa.ellipHolds
