import Derived.Test.YtchfbblpflcniaaM6

/-
  The statement EllipForms: for every input the law returns true.
-/
set_option linter.unusedVariables false
set_option linter.unusedSimpArgs false
namespace Go.Proofs.Ytchfbblpflcniaa.ellipForms
open Go Go.ChangeShapes Go.WideShapes Go.ChangeAt Go.RowKit Sx

/-- A number that is told of by a condition. -/
def sel (c : Bool) (a b : Int) : Int := match c with
  | true => a
  | false => b
theorem uBall (x y r : Int) (h : List (Option Chunk)) : CallOK Try.prog 4 [.agg #[.int .i64 x, .int .i64 y], .int .i64 r] h (.tuple #[.agg #[.int .i64 (sel (decide (withinP 4194304 x y ∧ (1 ≤ r ∧ r ≤ 4194304))) (x) (0)), .int .i64 (sel (decide (withinP 4194304 x y ∧ (1 ≤ r ∧ r ≤ 4194304))) (y) (0)), .int .i64 (sel (decide (withinP 4194304 x y ∧ (1 ≤ r ∧ r ≤ 4194304))) (r * r) (0)), .int .i64 (sel (decide (withinP 4194304 x y ∧ (1 ≤ r ∧ r ≤ 4194304))) (0) (0)), .int .i64 (sel (decide (withinP 4194304 x y ∧ (1 ≤ r ∧ r ≤ 4194304))) (r * r) (0))], .int .i64 (sel (decide (withinP 4194304 x y ∧ (1 ≤ r ∧ r ≤ 4194304))) (0) (1))]) [] [] := by
  by_cases hc : withinP 4194304 x y ∧ (1 ≤ r ∧ r ≤ 4194304)
  · rw [decide_eq_true hc]; exact cBallY x y r h hc.1 hc.2
  · rw [decide_eq_false hc]; exact cBallN x y r h hc
theorem uBox (x y p q : Int) (h : List (Option Chunk)) : CallOK Try.prog 6 [.agg #[.int .i64 x, .int .i64 y], .int .i64 p, .int .i64 q] h (.tuple #[.agg #[.int .i64 (sel (decide (withinP 4194304 x y ∧ (1 ≤ p ∧ p ≤ 4194304) ∧ (1 ≤ q ∧ q ≤ 4194304))) (x) (0)), .int .i64 (sel (decide (withinP 4194304 x y ∧ (1 ≤ p ∧ p ≤ 4194304) ∧ (1 ≤ q ∧ q ≤ 4194304))) (y) (0)), .int .i64 (sel (decide (withinP 4194304 x y ∧ (1 ≤ p ∧ p ≤ 4194304) ∧ (1 ≤ q ∧ q ≤ 4194304))) (2 * p * p) (0)), .int .i64 (sel (decide (withinP 4194304 x y ∧ (1 ≤ p ∧ p ≤ 4194304) ∧ (1 ≤ q ∧ q ≤ 4194304))) (0) (0)), .int .i64 (sel (decide (withinP 4194304 x y ∧ (1 ≤ p ∧ p ≤ 4194304) ∧ (1 ≤ q ∧ q ≤ 4194304))) (2 * q * q) (0))], .int .i64 (sel (decide (withinP 4194304 x y ∧ (1 ≤ p ∧ p ≤ 4194304) ∧ (1 ≤ q ∧ q ≤ 4194304))) (0) (1))]) [] [] := by
  by_cases hc : withinP 4194304 x y ∧ (1 ≤ p ∧ p ≤ 4194304) ∧ (1 ≤ q ∧ q ≤ 4194304)
  · rw [decide_eq_true hc]; exact cBoxY x y p q h hc.1 hc.2.1 hc.2.2
  · rw [decide_eq_false hc]; exact cBoxN x y p q h hc
theorem uHull (cx cy a b d : Int) (h : List (Option Chunk)) : CallOK Try.prog 10 [.agg #[.int .i64 cx, .int .i64 cy, .int .i64 a, .int .i64 b, .int .i64 d]] h (.tuple #[.int .i64 (sel (decide (mayP cx cy a b d)) (((usq a.toNat : Nat) : Int)) (0)), .int .i64 (sel (decide (mayP cx cy a b d)) (((usq d.toNat : Nat) : Int)) (0))]) [] [] := by
  by_cases hc : mayP cx cy a b d
  · rw [decide_eq_true hc]; exact cHullY cx cy a b d h hc
  · rw [decide_eq_false hc]; exact cHullN cx cy a b d h hc
theorem uAlong (cx cy a b d x y : Int) (h : List (Option Chunk)) : CallOK Try.prog 12 [.agg #[.int .i64 cx, .int .i64 cy, .int .i64 a, .int .i64 b, .int .i64 d], .agg #[.int .i64 x, .int .i64 y]] h (.tuple #[.int .i64 (sel (decide (mayP cx cy a b d ∧ withinP 16777216 x y)) (((alongN a b d x y : Nat) : Int)) (0)), .int .i64 (sel (decide (mayP cx cy a b d ∧ withinP 16777216 x y)) (0) (1))]) [] [] := by
  by_cases hc : mayP cx cy a b d ∧ withinP 16777216 x y
  · rw [decide_eq_true hc]; exact cAlongY cx cy a b d x y h hc.1 hc.2
  · rw [decide_eq_false hc]; exact cAlongN cx cy a b d x y h hc
theorem uShift (cx cy a b d x y : Int) (h : List (Option Chunk)) : CallOK Try.prog 8 [.agg #[.int .i64 cx, .int .i64 cy, .int .i64 a, .int .i64 b, .int .i64 d], .agg #[.int .i64 x, .int .i64 y]] h (.tuple #[.agg #[.int .i64 (sel (decide (mayP cx cy a b d ∧ withinP 4194304 x y)) (sel (decide (withinP 4194304 (cx + x) (cy + y))) (cx + x) (0)) (0)), .int .i64 (sel (decide (mayP cx cy a b d ∧ withinP 4194304 x y)) (sel (decide (withinP 4194304 (cx + x) (cy + y))) (cy + y) (0)) (0)), .int .i64 (sel (decide (mayP cx cy a b d ∧ withinP 4194304 x y)) (sel (decide (withinP 4194304 (cx + x) (cy + y))) (a) (0)) (0)), .int .i64 (sel (decide (mayP cx cy a b d ∧ withinP 4194304 x y)) (sel (decide (withinP 4194304 (cx + x) (cy + y))) (b) (0)) (0)), .int .i64 (sel (decide (mayP cx cy a b d ∧ withinP 4194304 x y)) (sel (decide (withinP 4194304 (cx + x) (cy + y))) (d) (0)) (0))], .int .i64 (sel (decide (mayP cx cy a b d ∧ withinP 4194304 x y)) (sel (decide (withinP 4194304 (cx + x) (cy + y))) (0) (2)) (1))]) [] [] := by
  by_cases hc : mayP cx cy a b d ∧ withinP 4194304 x y
  · rw [decide_eq_true hc]
    by_cases hd : withinP 4194304 (cx + x) (cy + y)
    · rw [decide_eq_true hd]; exact cShiftY cx cy a b d x y h hc.1 hc.2 hd
    · rw [decide_eq_false hd]; exact cShiftO cx cy a b d x y h hc.1 hc.2 hd
  · rw [decide_eq_false hc]; exact cShiftN cx cy a b d x y h hc
theorem uRBall (x y r : Int) (h : List (Option Chunk)) : CallOK Try.prog 5 [.agg #[.int .i64 x, .int .i64 y], .int .i64 r] h (.tuple #[.agg #[.int .i64 (sel (decide (withinP 4194304 x y ∧ (1 ≤ r ∧ r ≤ 4194304))) (x) (0)), .int .i64 (sel (decide (withinP 4194304 x y ∧ (1 ≤ r ∧ r ≤ 4194304))) (y) (0)), .int .i64 (sel (decide (withinP 4194304 x y ∧ (1 ≤ r ∧ r ≤ 4194304))) (r * r) (0)), .int .i64 (sel (decide (withinP 4194304 x y ∧ (1 ≤ r ∧ r ≤ 4194304))) (0) (0)), .int .i64 (sel (decide (withinP 4194304 x y ∧ (1 ≤ r ∧ r ≤ 4194304))) (r * r) (0))], .int .i64 (sel (decide (withinP 4194304 x y ∧ (1 ≤ r ∧ r ≤ 4194304))) (0) (1))]) [] [] := by
  by_cases hc : withinP 4194304 x y ∧ (1 ≤ r ∧ r ≤ 4194304)
  · rw [decide_eq_true hc]; exact cRBallY x y r h hc.1 hc.2
  · rw [decide_eq_false hc]; exact cRBallN x y r h hc
theorem uRBox (x y p q : Int) (h : List (Option Chunk)) : CallOK Try.prog 7 [.agg #[.int .i64 x, .int .i64 y], .int .i64 p, .int .i64 q] h (.tuple #[.agg #[.int .i64 (sel (decide (withinP 4194304 x y ∧ (1 ≤ p ∧ p ≤ 4194304) ∧ (1 ≤ q ∧ q ≤ 4194304))) (x) (0)), .int .i64 (sel (decide (withinP 4194304 x y ∧ (1 ≤ p ∧ p ≤ 4194304) ∧ (1 ≤ q ∧ q ≤ 4194304))) (y) (0)), .int .i64 (sel (decide (withinP 4194304 x y ∧ (1 ≤ p ∧ p ≤ 4194304) ∧ (1 ≤ q ∧ q ≤ 4194304))) (2 * p * p) (0)), .int .i64 (sel (decide (withinP 4194304 x y ∧ (1 ≤ p ∧ p ≤ 4194304) ∧ (1 ≤ q ∧ q ≤ 4194304))) (0) (0)), .int .i64 (sel (decide (withinP 4194304 x y ∧ (1 ≤ p ∧ p ≤ 4194304) ∧ (1 ≤ q ∧ q ≤ 4194304))) (2 * q * q) (0))], .int .i64 (sel (decide (withinP 4194304 x y ∧ (1 ≤ p ∧ p ≤ 4194304) ∧ (1 ≤ q ∧ q ≤ 4194304))) (0) (1))]) [] [] := by
  by_cases hc : withinP 4194304 x y ∧ (1 ≤ p ∧ p ≤ 4194304) ∧ (1 ≤ q ∧ q ≤ 4194304)
  · rw [decide_eq_true hc]; exact cRBoxY x y p q h hc.1 hc.2.1 hc.2.2
  · rw [decide_eq_false hc]; exact cRBoxN x y p q h hc
theorem uRHull (cx cy a b d : Int) (h : List (Option Chunk)) : CallOK Try.prog 11 [.agg #[.int .i64 cx, .int .i64 cy, .int .i64 a, .int .i64 b, .int .i64 d]] h (.tuple #[.int .i64 (sel (decide (mayP cx cy a b d)) (((usq a.toNat : Nat) : Int)) (0)), .int .i64 (sel (decide (mayP cx cy a b d)) (((usq d.toNat : Nat) : Int)) (0))]) [] [] := by
  by_cases hc : mayP cx cy a b d
  · rw [decide_eq_true hc]; exact cRHullY cx cy a b d h hc
  · rw [decide_eq_false hc]; exact cRHullN cx cy a b d h hc
theorem uRAlong (cx cy a b d x y : Int) (h : List (Option Chunk)) : CallOK Try.prog 13 [.agg #[.int .i64 cx, .int .i64 cy, .int .i64 a, .int .i64 b, .int .i64 d], .agg #[.int .i64 x, .int .i64 y]] h (.tuple #[.int .i64 (sel (decide (mayP cx cy a b d ∧ withinP 16777216 x y)) (((alongN a b d x y : Nat) : Int)) (0)), .int .i64 (sel (decide (mayP cx cy a b d ∧ withinP 16777216 x y)) (0) (1))]) [] [] := by
  by_cases hc : mayP cx cy a b d ∧ withinP 16777216 x y
  · rw [decide_eq_true hc]; exact cRAlongY cx cy a b d x y h hc.1 hc.2
  · rw [decide_eq_false hc]; exact cRAlongN cx cy a b d x y h hc
theorem uRShift (cx cy a b d x y : Int) (h : List (Option Chunk)) : CallOK Try.prog 9 [.agg #[.int .i64 cx, .int .i64 cy, .int .i64 a, .int .i64 b, .int .i64 d], .agg #[.int .i64 x, .int .i64 y]] h (.tuple #[.agg #[.int .i64 (sel (decide (mayP cx cy a b d ∧ withinP 4194304 x y)) (sel (decide (withinP 4194304 (cx + x) (cy + y))) (cx + x) (0)) (0)), .int .i64 (sel (decide (mayP cx cy a b d ∧ withinP 4194304 x y)) (sel (decide (withinP 4194304 (cx + x) (cy + y))) (cy + y) (0)) (0)), .int .i64 (sel (decide (mayP cx cy a b d ∧ withinP 4194304 x y)) (sel (decide (withinP 4194304 (cx + x) (cy + y))) (a) (0)) (0)), .int .i64 (sel (decide (mayP cx cy a b d ∧ withinP 4194304 x y)) (sel (decide (withinP 4194304 (cx + x) (cy + y))) (b) (0)) (0)), .int .i64 (sel (decide (mayP cx cy a b d ∧ withinP 4194304 x y)) (sel (decide (withinP 4194304 (cx + x) (cy + y))) (d) (0)) (0))], .int .i64 (sel (decide (mayP cx cy a b d ∧ withinP 4194304 x y)) (sel (decide (withinP 4194304 (cx + x) (cy + y))) (0) (2)) (1))]) [] [] := by
  by_cases hc : mayP cx cy a b d ∧ withinP 4194304 x y
  · rw [decide_eq_true hc]
    by_cases hd : withinP 4194304 (cx + x) (cy + y)
    · rw [decide_eq_true hd]; exact cRShiftY cx cy a b d x y h hc.1 hc.2 hd
    · rw [decide_eq_false hd]; exact cRShiftO cx cy a b d x y h hc.1 hc.2 hd
  · rw [decide_eq_false hc]; exact cRShiftN cx cy a b d x y h hc
set_option maxRecDepth 100000 in
theorem neq_same (x y : Operand) (a b c d e : Int) : BinIs Try.prog .neq 27 x y (.agg #[.int .i64 a, .int .i64 b, .int .i64 c, .int .i64 d, .int .i64 e]) (.agg #[.int .i64 a, .int .i64 b, .int .i64 c, .int .i64 d, .int .i64 e]) (.bool false) :=
  ⟨rfl, rfl, rfl, fun w => by go_simp⟩
set_option maxRecDepth 100000 in
set_option maxHeartbeats 2000000 in
theorem walk (cx cy a b d px py ux uy hx hy r x y : Int) (w : World) :
    Calls Try.prog 3 #[.agg #[.int .i64 cx, .int .i64 cy, .int .i64 a, .int .i64 b, .int .i64 d], .agg #[.int .i64 px, .int .i64 py], .agg #[.int .i64 ux, .int .i64 uy], .agg #[.int .i64 hx, .int .i64 hy], .int .i64 r, .int .i64 x, .int .i64 y] w fun o w' => o = .returned (.bool true) ∧ Below w.heap.size w w' := by
  refine calls_pure (G := tys) w tysOK mixed Try.func3 (by rfl) (by rfl) (by rfl) ?_
  repeat' (refine N.go ?_; first | with_reducible (first | refine N.obl (by decide) ?_ | refine N.obl (flat_wi _ _ _) ?_ | refine N.obl (flat_lim _ _) ?_ | refine N.eq ?_ | refine N.obl rfl ?_ | refine N.obl ⟨by kernel_rfl, by kernel_rfl⟩ ?_ | refine N.alt ?_ | refine N.forkT ?_ | refine N.forkF ?_ | refine N.call (uBall _ _ _ _) ?_ | refine N.call (uRBall _ _ _ _) ?_ | refine N.call (uBox _ _ _ _ _) ?_ | refine N.call (uRBox _ _ _ _ _) ?_ | refine N.call (uHull _ _ _ _ _ _) ?_ | refine N.call (uRHull _ _ _ _ _ _) ?_ | refine N.call (uAlong _ _ _ _ _ _ _ _) ?_ | refine N.call (uRAlong _ _ _ _ _ _ _ _) ?_ | refine N.call (uShift _ _ _ _ _ _ _ _) ?_ | refine N.call (uRShift _ _ _ _ _ _ _ _) ?_ | refine N.call (cMayPoint _ _ _) ?_ | refine N.call (cRMayPoint _ _ _) ?_ | refine N.call (cEMay _ _ _ _ _ _) ?_ | refine N.call (cMayE _ _ _ _ _ _) ?_ | refine N.call (cIn4 _ _ _ _ _ _ _ _) ?_ | refine N.call (cRIn _ _ _ _ _ _ _ _) ?_ | refine N.call (cTrace _ _ _ _ _ _) ?_ | refine N.call (cRTrace _ _ _ _ _ _) ?_ | refine N.call (cRadius _ _ _ _ _ _) ?_ | refine N.call (cRRadius _ _ _ _ _ _) ?_ | refine N.call (cAwake4 _) ?_ | refine N.bin _ (neq_same _ _ _ _ _ _ _) ?_) | refine N.forkNo (bne_self_eq_false _) ?_ | refine N.forkYes (beq_self_eq_true _) ?_ | refine N.forkYes (decide_eq_true rfl) ?_ | refine N.forkNo (decide_eq_false (fun h => h rfl)) ?_ | fail)
  all_goals rfl
set_option maxRecDepth 100000 in
theorem open_ell {H : Type} {enc : TypeId × Value → H} {W : World} {r : Reach} {base : Nat} {v : Value} {d : DataW H} {p : List MemPlace}
    (hv : Value.okWide Try.prog W r base 27 v) (h : DataW.Trod enc Try.prog W 0 (fun _ => true) true 27 v d p) :
    ∃ x0 x1 x2 x3 x4 : Int, v = .agg #[.int .i64 x0, .int .i64 x1, .int .i64 x2, .int .i64 x3, .int .i64 x4] := by
  obtain ⟨cs, rfl, hs⟩ := okWide_struct Try.underlying27 hv
  have hs2 : cs.size = 5 := hs.trans (by kernel_rfl)
  obtain ⟨l⟩ := cs
  match l, hs2 with
  | [c0, c1, c2, c3, c4], _ =>
    obtain ⟨fuel, hf⟩ := h
    have hf' : DataW.trod enc Try.prog W 0 (fun _ => true) true fuel 27 [c0, c1, c2, c3, c4] = some (d, p) := hf
    obtain ⟨k0, w0⟩ := leaf_int (d := 3) (l := 2) (j := 0) (u := c0) (by kernel_rfl) (@Try.underlying2) rfl hf'
    obtain ⟨k1, w1⟩ := leaf_int (d := 3) (l := 2) (j := 1) (u := c1) (by kernel_rfl) (@Try.underlying2) rfl hf'
    obtain ⟨k2, w2⟩ := leaf_int (d := 3) (l := 2) (j := 2) (u := c2) (by kernel_rfl) (@Try.underlying2) rfl hf'
    obtain ⟨k3, w3⟩ := leaf_int (d := 3) (l := 2) (j := 3) (u := c3) (by kernel_rfl) (@Try.underlying2) rfl hf'
    obtain ⟨k4, w4⟩ := leaf_int (d := 3) (l := 2) (j := 4) (u := c4) (by kernel_rfl) (@Try.underlying2) rfl hf'
    exact ⟨_, _, _, _, _, by rw [k0, k1, k2, k3, k4]⟩
set_option maxRecDepth 100000 in
theorem open_pt {H : Type} {enc : TypeId × Value → H} {W : World} {r : Reach} {base : Nat} {v : Value} {d : DataW H} {p : List MemPlace}
    (hv : Value.okWide Try.prog W r base 23 v) (h : DataW.Trod enc Try.prog W 0 (fun _ => true) true 23 v d p) :
    ∃ x0 x1 : Int, v = .agg #[.int .i64 x0, .int .i64 x1] := by
  obtain ⟨cs, rfl, hs⟩ := okWide_struct Try.underlying23 hv
  have hs2 : cs.size = 2 := hs.trans (by kernel_rfl)
  obtain ⟨l⟩ := cs
  match l, hs2 with
  | [c0, c1], _ =>
    obtain ⟨fuel, hf⟩ := h
    have hf' : DataW.trod enc Try.prog W 0 (fun _ => true) true fuel 23 [c0, c1] = some (d, p) := hf
    obtain ⟨k0, w0⟩ := leaf_int (d := 3) (l := 2) (j := 0) (u := c0) (by kernel_rfl) (@Try.underlying2) rfl hf'
    obtain ⟨k1, w1⟩ := leaf_int (d := 3) (l := 2) (j := 1) (u := c1) (by kernel_rfl) (@Try.underlying2) rfl hf'
    exact ⟨_, _, by rw [k0, k1]⟩
set_option maxRecDepth 100000 in
theorem lifted (os : Os) (started : os.Started) (H : Type) (enc : TypeId × Value → H) :
    ReturnsInHanded {} Try.checked os 3 .any (Rows.ellipFormsSpec.pre6 enc Try.prog Try.f3 Rows.ellipFormsRow.domain false) (Rows.ellipFormsSpec.post enc Try.prog Try.f3 false true false false) := by
  refine law_lifted (C := Try.checked) (tb := 4) Try.own started (by kernel_rfl) Try.func3 Try.laidOut (by kernel_rfl) rfl Try.underlying4 rfl
    (fun ds hds => by match ds, hds with | [_, _, _, _, _, _, _], _ => rfl)
    (ChangeSpec.witness6 (enc := enc) (C := Try.checked) false ⟨#[], #[.agg #[.int .i64 0, .int .i64 0, .int .i64 0, .int .i64 0, .int .i64 0], .agg #[.int .i64 0, .int .i64 0], .agg #[.int .i64 0, .int .i64 0], .agg #[.int .i64 0, .int .i64 0], .int .i64 0, .int .i64 0, .int .i64 0], []⟩ 8 (by kernel_rfl) (by kernel_rfl) (by kernel_rfl) (by kernel_rfl)) ?_
  intro W base args ds p hval0 hA0 hsz0
  have hval : ∀ (j : Nat) t v, Try.f3.params[j]? = some t → args[j]? = some v → Value.okWide Try.prog W .any base t v := hval0
  have hA : DataW.TrodAll enc Try.prog W 0 (fun _ => true) true Try.f3.params.toList args.toList ds p := hA0
  have hsz : (DataW.weightsEach Try.prog Try.f3.params.toList ds).all (· ≤ reachBytes) = true := hsz0
  rw [Try.params3] at hA hval hsz
  obtain ⟨v0, vs0, d0, ds0, p0, q0, hargs, rfl, rfl, h0, r0⟩ := trodAll_cons hA
  obtain ⟨v1, vs1, d1, ds1, p1, q1, rfl, rfl, rfl, h1, r1⟩ := trodAll_cons r0
  obtain ⟨v2, vs2, d2, ds2, p2, q2, rfl, rfl, rfl, h2, r2⟩ := trodAll_cons r1
  obtain ⟨v3, vs3, d3, ds3, p3, q3, rfl, rfl, rfl, h3, r3⟩ := trodAll_cons r2
  obtain ⟨v4, vs4, d4, ds4, p4, q4, rfl, rfl, rfl, h4, r4⟩ := trodAll_cons r3
  obtain ⟨v5, vs5, d5, ds5, p5, q5, rfl, rfl, rfl, h5, r5⟩ := trodAll_cons r4
  obtain ⟨v6, vs6, d6, ds6, p6, q6, rfl, rfl, rfl, h6, r6⟩ := trodAll_cons r5
  obtain ⟨rfl, rfl, rfl⟩ := trodAll_nil r6
  obtain rfl : args = #[v0, v1, v2, v3, v4, v5, v6] := by cases args; simp_all
  obtain ⟨f0_0, f0_1, f0_2, f0_3, f0_4, rfl⟩ := open_ell (hval 0 _ v0 rfl rfl) h0
  obtain ⟨f1_0, f1_1, rfl⟩ := open_pt (hval 1 _ v1 rfl rfl) h1
  obtain ⟨f2_0, f2_1, rfl⟩ := open_pt (hval 2 _ v2 rfl rfl) h2
  obtain ⟨f3_0, f3_1, rfl⟩ := open_pt (hval 3 _ v3 rfl rfl) h3
  obtain ⟨a4, rfl, rfl, rfl, w4⟩ := open_int Try.underlying2 (hval 4 _ v4 rfl rfl) h4
  obtain ⟨a5, rfl, rfl, rfl, w5⟩ := open_int Try.underlying2 (hval 5 _ v5 rfl rfl) h5
  obtain ⟨a6, rfl, rfl, rfl, w6⟩ := open_int Try.underlying2 (hval 6 _ v6 rfl rfl) h6
  exact walk f0_0 f0_1 f0_2 f0_3 f0_4 f1_0 f1_1 f2_0 f2_1 f3_0 f3_1 a4 a5 a6 W

theorem proved : Rows.EllipFormsSaid :=
  OpenClaim.holds_of_wide 3 Try.f3 rfl rfl rfl rfl rfl rfl rfl ⟨rfl, rfl, rfl, rfl, rfl⟩ rfl rfl rfl rfl rfl (by kernel_rfl) Try.func3 (by kernel_rfl)
    (of_decide_eq_true (by kernel_rfl)) (by unfold Func.isWrapper; rw [if_neg (by decide +kernel)]; exact ⟨rfl, rfl⟩)
    (fun os started H enc _ => lifted os started H enc)
#print axioms proved
end Go.Proofs.Ytchfbblpflcniaa.ellipForms
