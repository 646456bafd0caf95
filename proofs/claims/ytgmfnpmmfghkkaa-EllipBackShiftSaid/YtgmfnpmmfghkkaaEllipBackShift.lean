/-
  The statement EllipBackShift: for every input the law returns true.
-/
import Derived.Test.YtgmfnpmmfghkkaaElP
set_option linter.unusedVariables false
set_option linter.unusedSimpArgs false
namespace Go.Proofs.Ytgmfnpmmfghkkaa.ellipBackShift
open Go Go.ChangeShapes Go.WideShapes Go.ChangeAt Go.RowKit Sx

theorem cShiftYz (cx cy a b d x y ux uy x' y' : Int) (h : List (Option Chunk)) (e1 : x' = x) (e2 : y' = y) (k1 : cx + x = ux) (k2 : cy + y = uy) (hm : mayP cx cy a b d) (hw : withinP 4194304 x y) (hc : withinP 4194304 ux uy) : CallOK Try.prog 13 [.agg #[.int .i64 cx, .int .i64 cy, .int .i64 a, .int .i64 b, .int .i64 d], .agg #[.int .i64 x', .int .i64 y']] h (.tuple #[.agg #[.int .i64 ux, .int .i64 uy, .int .i64 a, .int .i64 b, .int .i64 d], .int .i64 0]) [] [] := by
  subst e1 e2 k1 k2; exact cShiftY cx cy a b d x' y' h hm hw hc
set_option maxRecDepth 100000 in
set_option maxHeartbeats 2000000 in
theorem walk (cx cy a b d x y : Int) (w : World) :
    Calls Try.prog 5 #[.agg #[.int .i64 cx, .int .i64 cy, .int .i64 a, .int .i64 b, .int .i64 d], .agg #[.int .i64 x, .int .i64 y]] w fun o w' => o = .returned (.bool true) ∧ Below w.heap.size w w' := by
  by_cases h1 : mayP cx cy a b d ∧ withinP 4194304 x y
  · obtain ⟨hm, hw⟩ := h1
    by_cases hc : withinP 4194304 (cx + x) (cy + y)
    · have hm2 : mayP (cx + x) (cy + y) a b d := ⟨hc, hm.2⟩
      have hw2 : withinP 4194304 (-x) (-y) := by unfold withinP at hw ⊢; omega
      have hw1 := hw
      unfold withinP at hw1
      have e1 : IntKind.i64.wrap (0 - x) = -x := by rw [i64s (0 - x) (by omega) (by omega)]; omega
      have e2 : IntKind.i64.wrap (0 - y) = -y := by rw [i64s (0 - y) (by omega) (by omega)]; omega
      have k1 : cx + x + -x = cx := by omega
      have k2 : cy + y + -y = cy := by omega
      refine calls_pure (G := tys) w tysOK mixed Try.func5 (by rfl) (by rfl) (by rfl) ?_; repeat' (refine N.go ?_; first | with_reducible refine N.obl (by decide) ?_ | with_reducible refine N.obl (flat_wi _ _ _) ?_ | with_reducible refine N.obl (flat_lim _ _) ?_ | with_reducible refine N.eq ?_ | with_reducible refine N.obl rfl ?_ | with_reducible refine N.obl ⟨by kernel_rfl, by kernel_rfl⟩ ?_ | with_reducible refine N.forkT ?_ | with_reducible refine N.forkF ?_ | refine N.call (cShiftYz _ _ _ _ _ (-x) (-y) cx cy _ _ _ e1 e2 k1 k2 hm2 hw2 hm.1) ?_ | with_reducible refine N.call (cShiftY _ _ _ _ _ _ _ _ hm hw hc) ?_ | with_reducible refine N.call (cShiftO _ _ _ _ _ _ _ _ hm hw hc) ?_ | with_reducible refine N.call (cShiftN _ _ _ _ _ _ _ _ h1) ?_ | with_reducible refine N.call (cTrace _ _ _ _ _ _) ?_ | with_reducible refine N.call (cRadius _ _ _ _ _ _) ?_ | with_reducible refine N.call (cAwake4 _) ?_ | with_reducible refine N.bin _ (eq_ellipse _ _ _ _ _ _ _ _ _ _ _ _) ?_ | refine N.forkNo (by decide) ?_ | refine N.forkYes (by decide) ?_ | refine N.forkYes (by simp only [beq_self_eq_true, Bool.and_self, Bool.and_true, Bool.true_and]) ?_ | refine N.forkYes (by rw [if_pos hm2, if_pos hm, beq_self_eq_true]) ?_ | refine N.forkYes (by unfold trP; rw [if_pos hm2, if_pos hm, beq_self_eq_true]) ?_)
      all_goals rfl
    · refine calls_pure (G := tys) w tysOK mixed Try.func5 (by rfl) (by rfl) (by rfl) ?_; repeat' (refine N.go ?_; first | with_reducible refine N.obl (by decide) ?_ | with_reducible refine N.obl (flat_wi _ _ _) ?_ | with_reducible refine N.obl (flat_lim _ _) ?_ | with_reducible refine N.eq ?_ | with_reducible refine N.obl rfl ?_ | with_reducible refine N.obl ⟨by kernel_rfl, by kernel_rfl⟩ ?_ | with_reducible refine N.forkT ?_ | with_reducible refine N.forkF ?_ | refine N.call (cShiftYz _ _ _ _ _ (-x) (-y) cx cy _ _ _ e1 e2 k1 k2 hm2 hw2 hm.1) ?_ | with_reducible refine N.call (cShiftY _ _ _ _ _ _ _ _ hm hw hc) ?_ | with_reducible refine N.call (cShiftO _ _ _ _ _ _ _ _ hm hw hc) ?_ | with_reducible refine N.call (cShiftN _ _ _ _ _ _ _ _ h1) ?_ | with_reducible refine N.call (cTrace _ _ _ _ _ _) ?_ | with_reducible refine N.call (cRadius _ _ _ _ _ _) ?_ | with_reducible refine N.call (cAwake4 _) ?_ | with_reducible refine N.bin _ (eq_ellipse _ _ _ _ _ _ _ _ _ _ _ _) ?_ | refine N.forkNo (by decide) ?_ | refine N.forkYes (by decide) ?_ | refine N.forkYes (by simp only [beq_self_eq_true, Bool.and_self, Bool.and_true, Bool.true_and]) ?_ | refine N.forkYes (by rw [if_pos hm2, if_pos hm, beq_self_eq_true]) ?_ | refine N.forkYes (by unfold trP; rw [if_pos hm2, if_pos hm, beq_self_eq_true]) ?_)
      all_goals rfl
  · refine calls_pure (G := tys) w tysOK mixed Try.func5 (by rfl) (by rfl) (by rfl) ?_; repeat' (refine N.go ?_; first | with_reducible refine N.obl (by decide) ?_ | with_reducible refine N.obl (flat_wi _ _ _) ?_ | with_reducible refine N.obl (flat_lim _ _) ?_ | with_reducible refine N.eq ?_ | with_reducible refine N.obl rfl ?_ | with_reducible refine N.obl ⟨by kernel_rfl, by kernel_rfl⟩ ?_ | with_reducible refine N.forkT ?_ | with_reducible refine N.forkF ?_ | refine N.call (cShiftYz _ _ _ _ _ (-x) (-y) cx cy _ _ _ e1 e2 k1 k2 hm2 hw2 hm.1) ?_ | with_reducible refine N.call (cShiftY _ _ _ _ _ _ _ _ hm hw hc) ?_ | with_reducible refine N.call (cShiftO _ _ _ _ _ _ _ _ hm hw hc) ?_ | with_reducible refine N.call (cShiftN _ _ _ _ _ _ _ _ h1) ?_ | with_reducible refine N.call (cTrace _ _ _ _ _ _) ?_ | with_reducible refine N.call (cRadius _ _ _ _ _ _) ?_ | with_reducible refine N.call (cAwake4 _) ?_ | with_reducible refine N.bin _ (eq_ellipse _ _ _ _ _ _ _ _ _ _ _ _) ?_ | refine N.forkNo (by decide) ?_ | refine N.forkYes (by decide) ?_ | refine N.forkYes (by simp only [beq_self_eq_true, Bool.and_self, Bool.and_true, Bool.true_and]) ?_ | refine N.forkYes (by rw [if_pos hm2, if_pos hm, beq_self_eq_true]) ?_ | refine N.forkYes (by unfold trP; rw [if_pos hm2, if_pos hm, beq_self_eq_true]) ?_)
    all_goals rfl
set_option maxRecDepth 100000 in
theorem open_ell {H : Type} {enc : TypeId × Value → H} {W : World} {r : Reach} {base : Nat} {v : Value} {d : DataW H} {p : List MemPlace}
    (hv : Value.okWide Try.prog W r base 27 v) (h : DataW.Trod enc Try.prog W 0 (fun _ => true) true 27 v d p) :
    ∃ x0 x1 x2 x3 x4 : Int, v = .agg #[.int .i64 x0, .int .i64 x1, .int .i64 x2, .int .i64 x3, .int .i64 x4] := by
  obtain ⟨cs, rfl, hs⟩ := okWide_struct Try.underlying27 hv
  have hs2 : cs.size = 5 := hs.trans (by kernel_rfl)
  obtain ⟨l⟩ := cs
  match l, hs2 with
  | [c0, c1, c2, c3, c4], _ =>
    obtain ⟨fuel, hf⟩ := h
    have hf' : DataW.trod enc Try.prog W 0 (fun _ => true) true fuel 27 [c0, c1, c2, c3, c4] = some (d, p) := hf
    obtain ⟨k0, w0⟩ := leaf_int (d := 3) (l := 2) (j := 0) (u := c0) (by kernel_rfl) (@Try.underlying2) rfl hf'
    obtain ⟨k1, w1⟩ := leaf_int (d := 3) (l := 2) (j := 1) (u := c1) (by kernel_rfl) (@Try.underlying2) rfl hf'
    obtain ⟨k2, w2⟩ := leaf_int (d := 3) (l := 2) (j := 2) (u := c2) (by kernel_rfl) (@Try.underlying2) rfl hf'
    obtain ⟨k3, w3⟩ := leaf_int (d := 3) (l := 2) (j := 3) (u := c3) (by kernel_rfl) (@Try.underlying2) rfl hf'
    obtain ⟨k4, w4⟩ := leaf_int (d := 3) (l := 2) (j := 4) (u := c4) (by kernel_rfl) (@Try.underlying2) rfl hf'
    exact ⟨_, _, _, _, _, by rw [k0, k1, k2, k3, k4]⟩
set_option maxRecDepth 100000 in
theorem open_pt {H : Type} {enc : TypeId × Value → H} {W : World} {r : Reach} {base : Nat} {v : Value} {d : DataW H} {p : List MemPlace}
    (hv : Value.okWide Try.prog W r base 23 v) (h : DataW.Trod enc Try.prog W 0 (fun _ => true) true 23 v d p) :
    ∃ x0 x1 : Int, v = .agg #[.int .i64 x0, .int .i64 x1] := by
  obtain ⟨cs, rfl, hs⟩ := okWide_struct Try.underlying23 hv
  have hs2 : cs.size = 2 := hs.trans (by kernel_rfl)
  obtain ⟨l⟩ := cs
  match l, hs2 with
  | [c0, c1], _ =>
    obtain ⟨fuel, hf⟩ := h
    have hf' : DataW.trod enc Try.prog W 0 (fun _ => true) true fuel 23 [c0, c1] = some (d, p) := hf
    obtain ⟨k0, w0⟩ := leaf_int (d := 3) (l := 2) (j := 0) (u := c0) (by kernel_rfl) (@Try.underlying2) rfl hf'
    obtain ⟨k1, w1⟩ := leaf_int (d := 3) (l := 2) (j := 1) (u := c1) (by kernel_rfl) (@Try.underlying2) rfl hf'
    exact ⟨_, _, by rw [k0, k1]⟩
set_option maxRecDepth 100000 in
theorem lifted (os : Os) (started : os.Started) (H : Type) (enc : TypeId × Value → H) :
    ReturnsInHanded {} Try.checked os 5 .any (Rows.ellipBackShiftSpec.pre6 enc Try.prog Try.f5 Rows.ellipBackShiftRow.domain false) (Rows.ellipBackShiftSpec.post enc Try.prog Try.f5 false true false false) := by
  refine law_lifted (C := Try.checked) (tb := 4) Try.own started (by kernel_rfl) Try.func5 Try.laidOut (by kernel_rfl) rfl Try.underlying4 rfl
    (fun ds hds => by match ds, hds with | [_, _], _ => rfl)
    (ChangeSpec.witness6 (enc := enc) (C := Try.checked) false ⟨#[], #[.agg #[.int .i64 0, .int .i64 0, .int .i64 0, .int .i64 0, .int .i64 0], .agg #[.int .i64 0, .int .i64 0]], []⟩ 8 (by kernel_rfl) (by kernel_rfl) (by kernel_rfl) (by kernel_rfl)) ?_
  intro W base args ds p hval0 hA0 hsz0
  have hval : ∀ (j : Nat) t v, Try.f5.params[j]? = some t → args[j]? = some v → Value.okWide Try.prog W .any base t v := hval0
  have hA : DataW.TrodAll enc Try.prog W 0 (fun _ => true) true Try.f5.params.toList args.toList ds p := hA0
  have hsz : (DataW.weightsEach Try.prog Try.f5.params.toList ds).all (· ≤ reachBytes) = true := hsz0
  rw [Try.params5] at hA hval hsz
  obtain ⟨v0, vs0, d0, ds0, p0, q0, hargs, rfl, rfl, h0, r0⟩ := trodAll_cons hA
  obtain ⟨v1, vs1, d1, ds1, p1, q1, rfl, rfl, rfl, h1, r1⟩ := trodAll_cons r0
  obtain ⟨rfl, rfl, rfl⟩ := trodAll_nil r1
  obtain rfl : args = #[v0, v1] := by cases args; simp_all
  obtain ⟨f0_0, f0_1, f0_2, f0_3, f0_4, rfl⟩ := open_ell (hval 0 _ v0 rfl rfl) h0
  obtain ⟨f1_0, f1_1, rfl⟩ := open_pt (hval 1 _ v1 rfl rfl) h1
  exact walk f0_0 f0_1 f0_2 f0_3 f0_4 f1_0 f1_1 W

theorem proved : Rows.EllipBackShiftSaid :=
  OpenClaim.holds_of_wide 5 Try.f5 rfl rfl rfl rfl rfl rfl rfl ⟨rfl, rfl, rfl, rfl, rfl⟩ rfl rfl rfl rfl rfl (by kernel_rfl) Try.func5 (by kernel_rfl)
    (of_decide_eq_true (by kernel_rfl)) (by unfold Func.isWrapper; rw [if_neg (by decide +kernel)]; exact ⟨rfl, rfl⟩)
    (fun os started H enc _ => lifted os started H enc)
#print axioms proved
end Go.Proofs.Ytgmfnpmmfghkkaa.ellipBackShift
