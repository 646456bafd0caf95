/-
  The statement EllipWider: for every input the law returns true.
-/
import Derived.Test.YtgmfnpmmfghkkaaElP
set_option linter.unusedVariables false
set_option linter.unusedSimpArgs false
namespace Go.Proofs.Ytgmfnpmmfghkkaa.ellipWider
open Go Go.ChangeShapes Go.WideShapes Go.ChangeAt Go.RowKit Sx

set_option maxRecDepth 100000 in
set_option maxHeartbeats 2000000 in
theorem walk (cx cy a b d p q r x y : Int) (w : World) :
    Calls Try.prog 4 #[.agg #[.int .i64 cx, .int .i64 cy, .int .i64 a, .int .i64 b, .int .i64 d], .agg #[.int .i64 p, .int .i64 q, .int .i64 r], .agg #[.int .i64 x, .int .i64 y]] w fun o w' => o = .returned (.bool true) ∧ Below w.heap.size w w' := by
  by_cases h1 : mayP cx cy a b d
  · by_cases h2 : mayP cx cy p q r
    · by_cases h3 : leastP p q r a b d
      · have hps := h3.2.2
        have ht : p + r ≥ a + d := by have := hps.1; have := hps.2.1; omega
        by_cases h4 : inP cx cy a b d x y
        · have h5 : inP cx cy p q r x y := ⟨h2, h4.2.1, holds_wider hps h4.2.2⟩
          refine calls_pure (G := tys) w tysOK mixed Try.func4 (by rfl) (by rfl) (by rfl) ?_; repeat' (refine N.go ?_; first | with_reducible refine N.obl (by decide) ?_ | with_reducible refine N.obl (flat_wi _ _ _) ?_ | with_reducible refine N.obl (flat_lim _ _) ?_ | with_reducible refine N.eq ?_ | with_reducible refine N.obl rfl ?_ | with_reducible refine N.obl ⟨by kernel_rfl, by kernel_rfl⟩ ?_ | with_reducible refine N.forkT ?_ | with_reducible refine N.forkF ?_ | with_reducible refine N.call (cMay _ _ _ _ _ _) ?_ | with_reducible refine N.call (cLeast _ _ _ _ _ _ _) ?_ | with_reducible refine N.call (cIn4 _ _ _ _ _ _ _ _) ?_ | with_reducible refine N.call (cTrace _ _ _ _ _ _) ?_ | with_reducible refine N.call (cAwake4 _) ?_ | refine N.forkNo (by rw [decide_eq_true (by assumption)]; rfl) ?_ | refine N.forkYes (by rw [decide_eq_false (by assumption)]; rfl) ?_ | refine N.forkYes (decide_eq_true (by assumption)) ?_ | refine N.forkNo (decide_eq_false (by assumption)) ?_ | refine N.forkYes (by rw [decide_eq_true_eq, if_pos (by assumption), if_pos (by assumption)]; exact ht) ?_ | refine N.forkNo (by decide) ?_ | refine N.forkYes (by decide) ?_)
          all_goals rfl
        · refine calls_pure (G := tys) w tysOK mixed Try.func4 (by rfl) (by rfl) (by rfl) ?_; repeat' (refine N.go ?_; first | with_reducible refine N.obl (by decide) ?_ | with_reducible refine N.obl (flat_wi _ _ _) ?_ | with_reducible refine N.obl (flat_lim _ _) ?_ | with_reducible refine N.eq ?_ | with_reducible refine N.obl rfl ?_ | with_reducible refine N.obl ⟨by kernel_rfl, by kernel_rfl⟩ ?_ | with_reducible refine N.forkT ?_ | with_reducible refine N.forkF ?_ | with_reducible refine N.call (cMay _ _ _ _ _ _) ?_ | with_reducible refine N.call (cLeast _ _ _ _ _ _ _) ?_ | with_reducible refine N.call (cIn4 _ _ _ _ _ _ _ _) ?_ | with_reducible refine N.call (cTrace _ _ _ _ _ _) ?_ | with_reducible refine N.call (cAwake4 _) ?_ | refine N.forkNo (by rw [decide_eq_true (by assumption)]; rfl) ?_ | refine N.forkYes (by rw [decide_eq_false (by assumption)]; rfl) ?_ | refine N.forkYes (decide_eq_true (by assumption)) ?_ | refine N.forkNo (decide_eq_false (by assumption)) ?_ | refine N.forkYes (by rw [decide_eq_true_eq, if_pos (by assumption), if_pos (by assumption)]; exact ht) ?_ | refine N.forkNo (by decide) ?_ | refine N.forkYes (by decide) ?_)
          all_goals rfl
      · refine calls_pure (G := tys) w tysOK mixed Try.func4 (by rfl) (by rfl) (by rfl) ?_; repeat' (refine N.go ?_; first | with_reducible refine N.obl (by decide) ?_ | with_reducible refine N.obl (flat_wi _ _ _) ?_ | with_reducible refine N.obl (flat_lim _ _) ?_ | with_reducible refine N.eq ?_ | with_reducible refine N.obl rfl ?_ | with_reducible refine N.obl ⟨by kernel_rfl, by kernel_rfl⟩ ?_ | with_reducible refine N.forkT ?_ | with_reducible refine N.forkF ?_ | with_reducible refine N.call (cMay _ _ _ _ _ _) ?_ | with_reducible refine N.call (cLeast _ _ _ _ _ _ _) ?_ | with_reducible refine N.call (cIn4 _ _ _ _ _ _ _ _) ?_ | with_reducible refine N.call (cTrace _ _ _ _ _ _) ?_ | with_reducible refine N.call (cAwake4 _) ?_ | refine N.forkNo (by rw [decide_eq_true (by assumption)]; rfl) ?_ | refine N.forkYes (by rw [decide_eq_false (by assumption)]; rfl) ?_ | refine N.forkYes (decide_eq_true (by assumption)) ?_ | refine N.forkNo (decide_eq_false (by assumption)) ?_ | refine N.forkYes (by rw [decide_eq_true_eq, if_pos (by assumption), if_pos (by assumption)]; exact ht) ?_ | refine N.forkNo (by decide) ?_ | refine N.forkYes (by decide) ?_)
        all_goals rfl
    · refine calls_pure (G := tys) w tysOK mixed Try.func4 (by rfl) (by rfl) (by rfl) ?_; repeat' (refine N.go ?_; first | with_reducible refine N.obl (by decide) ?_ | with_reducible refine N.obl (flat_wi _ _ _) ?_ | with_reducible refine N.obl (flat_lim _ _) ?_ | with_reducible refine N.eq ?_ | with_reducible refine N.obl rfl ?_ | with_reducible refine N.obl ⟨by kernel_rfl, by kernel_rfl⟩ ?_ | with_reducible refine N.forkT ?_ | with_reducible refine N.forkF ?_ | with_reducible refine N.call (cMay _ _ _ _ _ _) ?_ | with_reducible refine N.call (cLeast _ _ _ _ _ _ _) ?_ | with_reducible refine N.call (cIn4 _ _ _ _ _ _ _ _) ?_ | with_reducible refine N.call (cTrace _ _ _ _ _ _) ?_ | with_reducible refine N.call (cAwake4 _) ?_ | refine N.forkNo (by rw [decide_eq_true (by assumption)]; rfl) ?_ | refine N.forkYes (by rw [decide_eq_false (by assumption)]; rfl) ?_ | refine N.forkYes (decide_eq_true (by assumption)) ?_ | refine N.forkNo (decide_eq_false (by assumption)) ?_ | refine N.forkYes (by rw [decide_eq_true_eq, if_pos (by assumption), if_pos (by assumption)]; exact ht) ?_ | refine N.forkNo (by decide) ?_ | refine N.forkYes (by decide) ?_)
      all_goals rfl
  · refine calls_pure (G := tys) w tysOK mixed Try.func4 (by rfl) (by rfl) (by rfl) ?_; repeat' (refine N.go ?_; first | with_reducible refine N.obl (by decide) ?_ | with_reducible refine N.obl (flat_wi _ _ _) ?_ | with_reducible refine N.obl (flat_lim _ _) ?_ | with_reducible refine N.eq ?_ | with_reducible refine N.obl rfl ?_ | with_reducible refine N.obl ⟨by kernel_rfl, by kernel_rfl⟩ ?_ | with_reducible refine N.forkT ?_ | with_reducible refine N.forkF ?_ | with_reducible refine N.call (cMay _ _ _ _ _ _) ?_ | with_reducible refine N.call (cLeast _ _ _ _ _ _ _) ?_ | with_reducible refine N.call (cIn4 _ _ _ _ _ _ _ _) ?_ | with_reducible refine N.call (cTrace _ _ _ _ _ _) ?_ | with_reducible refine N.call (cAwake4 _) ?_ | refine N.forkNo (by rw [decide_eq_true (by assumption)]; rfl) ?_ | refine N.forkYes (by rw [decide_eq_false (by assumption)]; rfl) ?_ | refine N.forkYes (decide_eq_true (by assumption)) ?_ | refine N.forkNo (decide_eq_false (by assumption)) ?_ | refine N.forkYes (by rw [decide_eq_true_eq, if_pos (by assumption), if_pos (by assumption)]; exact ht) ?_ | refine N.forkNo (by decide) ?_ | refine N.forkYes (by decide) ?_)
    all_goals rfl
set_option maxRecDepth 100000 in
theorem open_ell {H : Type} {enc : TypeId × Value → H} {W : World} {r : Reach} {base : Nat} {v : Value} {d : DataW H} {p : List MemPlace}
    (hv : Value.okWide Try.prog W r base 27 v) (h : DataW.Trod enc Try.prog W 0 (fun _ => true) true 27 v d p) :
    ∃ x0 x1 x2 x3 x4 : Int, v = .agg #[.int .i64 x0, .int .i64 x1, .int .i64 x2, .int .i64 x3, .int .i64 x4] := by
  obtain ⟨cs, rfl, hs⟩ := okWide_struct Try.underlying27 hv
  have hs2 : cs.size = 5 := hs.trans (by kernel_rfl)
  obtain ⟨l⟩ := cs
  match l, hs2 with
  | [c0, c1, c2, c3, c4], _ =>
    obtain ⟨fuel, hf⟩ := h
    have hf' : DataW.trod enc Try.prog W 0 (fun _ => true) true fuel 27 [c0, c1, c2, c3, c4] = some (d, p) := hf
    obtain ⟨k0, w0⟩ := leaf_int (d := 3) (l := 2) (j := 0) (u := c0) (by kernel_rfl) (@Try.underlying2) rfl hf'
    obtain ⟨k1, w1⟩ := leaf_int (d := 3) (l := 2) (j := 1) (u := c1) (by kernel_rfl) (@Try.underlying2) rfl hf'
    obtain ⟨k2, w2⟩ := leaf_int (d := 3) (l := 2) (j := 2) (u := c2) (by kernel_rfl) (@Try.underlying2) rfl hf'
    obtain ⟨k3, w3⟩ := leaf_int (d := 3) (l := 2) (j := 3) (u := c3) (by kernel_rfl) (@Try.underlying2) rfl hf'
    obtain ⟨k4, w4⟩ := leaf_int (d := 3) (l := 2) (j := 4) (u := c4) (by kernel_rfl) (@Try.underlying2) rfl hf'
    exact ⟨_, _, _, _, _, by rw [k0, k1, k2, k3, k4]⟩
set_option maxRecDepth 100000 in
theorem open_pt {H : Type} {enc : TypeId × Value → H} {W : World} {r : Reach} {base : Nat} {v : Value} {d : DataW H} {p : List MemPlace}
    (hv : Value.okWide Try.prog W r base 23 v) (h : DataW.Trod enc Try.prog W 0 (fun _ => true) true 23 v d p) :
    ∃ x0 x1 : Int, v = .agg #[.int .i64 x0, .int .i64 x1] := by
  obtain ⟨cs, rfl, hs⟩ := okWide_struct Try.underlying23 hv
  have hs2 : cs.size = 2 := hs.trans (by kernel_rfl)
  obtain ⟨l⟩ := cs
  match l, hs2 with
  | [c0, c1], _ =>
    obtain ⟨fuel, hf⟩ := h
    have hf' : DataW.trod enc Try.prog W 0 (fun _ => true) true fuel 23 [c0, c1] = some (d, p) := hf
    obtain ⟨k0, w0⟩ := leaf_int (d := 3) (l := 2) (j := 0) (u := c0) (by kernel_rfl) (@Try.underlying2) rfl hf'
    obtain ⟨k1, w1⟩ := leaf_int (d := 3) (l := 2) (j := 1) (u := c1) (by kernel_rfl) (@Try.underlying2) rfl hf'
    exact ⟨_, _, by rw [k0, k1]⟩
set_option maxRecDepth 100000 in
theorem open_sym {H : Type} {enc : TypeId × Value → H} {W : World} {r : Reach} {base : Nat} {v : Value} {d : DataW H} {p : List MemPlace}
    (hv : Value.okWide Try.prog W r base 25 v) (h : DataW.Trod enc Try.prog W 0 (fun _ => true) true 25 v d p) :
    ∃ x0 x1 x2 : Int, v = .agg #[.int .i64 x0, .int .i64 x1, .int .i64 x2] := by
  obtain ⟨cs, rfl, hs⟩ := okWide_struct Try.underlying25 hv
  have hs2 : cs.size = 3 := hs.trans (by kernel_rfl)
  obtain ⟨l⟩ := cs
  match l, hs2 with
  | [c0, c1, c2], _ =>
    obtain ⟨fuel, hf⟩ := h
    have hf' : DataW.trod enc Try.prog W 0 (fun _ => true) true fuel 25 [c0, c1, c2] = some (d, p) := hf
    obtain ⟨k0, w0⟩ := leaf_int (d := 3) (l := 2) (j := 0) (u := c0) (by kernel_rfl) (@Try.underlying2) rfl hf'
    obtain ⟨k1, w1⟩ := leaf_int (d := 3) (l := 2) (j := 1) (u := c1) (by kernel_rfl) (@Try.underlying2) rfl hf'
    obtain ⟨k2, w2⟩ := leaf_int (d := 3) (l := 2) (j := 2) (u := c2) (by kernel_rfl) (@Try.underlying2) rfl hf'
    exact ⟨_, _, _, by rw [k0, k1, k2]⟩
set_option maxRecDepth 100000 in
theorem lifted (os : Os) (started : os.Started) (H : Type) (enc : TypeId × Value → H) :
    ReturnsInHanded {} Try.checked os 4 .any (Rows.ellipWiderSpec.pre6 enc Try.prog Try.f4 Rows.ellipWiderRow.domain false) (Rows.ellipWiderSpec.post enc Try.prog Try.f4 false true false false) := by
  refine law_lifted (C := Try.checked) (tb := 4) Try.own started (by kernel_rfl) Try.func4 Try.laidOut (by kernel_rfl) rfl Try.underlying4 rfl
    (fun ds hds => by match ds, hds with | [_, _, _], _ => rfl)
    (ChangeSpec.witness6 (enc := enc) (C := Try.checked) false ⟨#[], #[.agg #[.int .i64 0, .int .i64 0, .int .i64 0, .int .i64 0, .int .i64 0], .agg #[.int .i64 0, .int .i64 0, .int .i64 0], .agg #[.int .i64 0, .int .i64 0]], []⟩ 8 (by kernel_rfl) (by kernel_rfl) (by kernel_rfl) (by kernel_rfl)) ?_
  intro W base args ds p hval0 hA0 hsz0
  have hval : ∀ (j : Nat) t v, Try.f4.params[j]? = some t → args[j]? = some v → Value.okWide Try.prog W .any base t v := hval0
  have hA : DataW.TrodAll enc Try.prog W 0 (fun _ => true) true Try.f4.params.toList args.toList ds p := hA0
  have hsz : (DataW.weightsEach Try.prog Try.f4.params.toList ds).all (· ≤ reachBytes) = true := hsz0
  rw [Try.params4] at hA hval hsz
  obtain ⟨v0, vs0, d0, ds0, p0, q0, hargs, rfl, rfl, h0, r0⟩ := trodAll_cons hA
  obtain ⟨v1, vs1, d1, ds1, p1, q1, rfl, rfl, rfl, h1, r1⟩ := trodAll_cons r0
  obtain ⟨v2, vs2, d2, ds2, p2, q2, rfl, rfl, rfl, h2, r2⟩ := trodAll_cons r1
  obtain ⟨rfl, rfl, rfl⟩ := trodAll_nil r2
  obtain rfl : args = #[v0, v1, v2] := by cases args; simp_all
  obtain ⟨f0_0, f0_1, f0_2, f0_3, f0_4, rfl⟩ := open_ell (hval 0 _ v0 rfl rfl) h0
  obtain ⟨f1_0, f1_1, f1_2, rfl⟩ := open_sym (hval 1 _ v1 rfl rfl) h1
  obtain ⟨f2_0, f2_1, rfl⟩ := open_pt (hval 2 _ v2 rfl rfl) h2
  exact walk f0_0 f0_1 f0_2 f0_3 f0_4 f1_0 f1_1 f1_2 f2_0 f2_1 W

theorem proved : Rows.EllipWiderSaid :=
  OpenClaim.holds_of_wide 4 Try.f4 rfl rfl rfl rfl rfl rfl rfl ⟨rfl, rfl, rfl, rfl, rfl⟩ rfl rfl rfl rfl rfl (by kernel_rfl) Try.func4 (by kernel_rfl)
    (of_decide_eq_true (by kernel_rfl)) (by unfold Func.isWrapper; rw [if_neg (by decide +kernel)]; exact ⟨rfl, rfl⟩)
    (fun os started H enc _ => lifted os started H enc)
#print axioms proved
end Go.Proofs.Ytgmfnpmmfghkkaa.ellipWider
