/-
  The statement TurnParts: for every input the law returns true.
-/
import Derived.Test.YtkjeebabcdnjkaaTurn3
import Derived.Test.YtkjeebabcdnjkaaPoint
import Derived.Test.YtkjeebabcdnjkaaTy
import Derived.IntWalk
set_option linter.unusedVariables false
namespace Go.Proofs.Ytkjeebabcdnjkaa.turnParts
open Go Go.ChangeShapes Go.WideShapes Go.ChangeAt Go.RowKit

theorem tmod_b (x : Int) : -2097151 ≤ x.tmod 2097152 ∧ x.tmod 2097152 ≤ 2097151 := by
  rcases Int.le_total 0 x with h | h
  · rw [Int.tmod_eq_emod_of_nonneg h]; omega
  · have : x.tmod 2097152 = -((-x).tmod 2097152) := by rw [Int.neg_tmod]; omega
    rw [this, Int.tmod_eq_emod_of_nonneg (by omega)]; omega

theorem gen_world {P : Program} {f : FuncId} {args : Array Value} {w : World} {R : Ending → World → Prop} (S : World → Prop) (hS : S w) (h : ∀ w1, S w1 → Calls P f args w1 R) : Calls P f args w R := h w hS

theorem cx_of {x y : Int} (h : stp x y = true) : cx x y = x := by unfold cx; rw [if_pos h]
theorem cy_of {x y : Int} (h : stp x y = true) : cy x y = y := by unfold cy; rw [if_pos h]

/-- The laws of the products, where all are steps. -/
theorem parts (ax ay bx bY dx dY : Int) (t1 : -2097151 ≤ ax ∧ ax ≤ 2097151) (t2 : -2097151 ≤ ay ∧ ay ≤ 2097151) (t3 : -2097151 ≤ bx ∧ bx ≤ 2097151) (t4 : -2097151 ≤ bY ∧ bY ≤ 2097151) (t5 : -2097151 ≤ dx ∧ dx ≤ 2097151) (t6 : -2097151 ≤ dY ∧ dY ≤ 2097151) :
    stp ax ay = true ∧ mulX ax ay (bx + dx) (bY + dY) = mulX ax ay bx bY + mulX ax ay dx dY ∧ mulY ax ay (bx + dx) (bY + dY) = mulY ax ay bx bY + mulY ax ay dx dY ∧
      mulX ax ay 1 0 = ax ∧ mulY ax ay 1 0 = ay ∧ mulX ax ay 0 1 = -ay ∧ mulY ax ay 0 1 = ax ∧ quarX ax ay 1 = -ay ∧ quarY ax ay 1 = ax := by
  have s1 : stp ax ay = true := stp_t (by omega)
  have s2 : stp bx bY = true := stp_t (by omega)
  have s3 : stp dx dY = true := stp_t (by omega)
  have s4 : stp (bx + dx) (bY + dY) = true := stp_t (by omega)
  have s5 : stp 1 0 = true := by decide
  have s6 : stp 0 1 = true := by decide
  refine ⟨s1, ?_, ?_, ?_, ?_, ?_, ?_, ?_, ?_⟩
  · unfold mulX; rw [cx_of s1, cy_of s1, cx_of s2, cy_of s2, cx_of s3, cy_of s3, cx_of s4, cy_of s4, Int.mul_add, Int.mul_add]; omega
  · unfold mulY; rw [cx_of s1, cy_of s1, cx_of s2, cy_of s2, cx_of s3, cy_of s3, cx_of s4, cy_of s4, Int.mul_add, Int.mul_add]; omega
  · unfold mulX; rw [cx_of s1, cy_of s1, cx_of s5, cy_of s5]; omega
  · unfold mulY; rw [cx_of s1, cy_of s1, cx_of s5, cy_of s5]; omega
  · unfold mulX; rw [cx_of s1, cy_of s1, cx_of s6, cy_of s6]; omega
  · unfold mulY; rw [cx_of s1, cy_of s1, cx_of s6, cy_of s6]; omega
  · unfold quarX; rw [cx_of s1, cy_of s1]; rfl
  · unfold quarY; rw [cx_of s1, cy_of s1]; rfl

open Sx
theorem cMul (px py qx qy : Int) (h : List (Option Chunk)) : CallOK Try.prog 9 [.agg #[.int .i64 px, .int .i64 py], .agg #[.int .i64 qx, .int .i64 qy]] h (.agg #[.int .i64 (mulX px py qx qy), .int .i64 (mulY px py qx qy)]) [] [] := call_pure (by rfl) (by rfl) (Try.call9 _) (fun w => mul_any px py qx qy w)
theorem cQuarter (x y k : Int) (h : List (Option Chunk)) : CallOK Try.prog 10 [.agg #[.int .i64 x, .int .i64 y], .int .i64 k] h (.agg #[.int .i64 (quarX x y k), .int .i64 (quarY x y k)]) [] [] := call_pure (by rfl) (by rfl) (Try.call10 _) (fun w => quarter_any x y k w)
theorem cMay (x y : Int) (h : List (Option Chunk)) : CallOK Try.prog 11 [.agg #[.int .i64 x, .int .i64 y]] h (.bool (stp x y)) [] [] := call_pure (by rfl) (by rfl) (Try.call11 _) (fun w => maystep_any x y w)
theorem cAwake (h : List (Option Chunk)) : CallOK Try.prog 12 [] h (.bool true) [] [] := call_pure (by rfl) (by rfl) (Try.call12 _) (fun w => awake_any w)
theorem eq_point (op : BinOp) (hop : op = .eql) (x y : Operand) (a b c d : Int) : BinIs Try.prog op 23 x y (.agg #[.int .i64 a, .int .i64 b]) (.agg #[.int .i64 c, .int .i64 d]) (.bool (a == c && b == d)) :=
  ⟨rfl, rfl, rfl, fun w => by subst hop; go_simp; by_cases h1 : a = c <;> by_cases h2 : b = d <;> simp [h1, h2]⟩
set_option maxRecDepth 10000 in
theorem walk (px py qx qy sx sy : Int) (w : World) :
    Calls Try.prog 3 #[.agg #[.int .i64 px, .int .i64 py], .agg #[.int .i64 qx, .int .i64 qy], .agg #[.int .i64 sx, .int .i64 sy]] w fun e w' => e = .returned (.bool true) ∧ Below w.heap.size w w' := by
  have t1 := tmod_b px
  have t2 := tmod_b py
  have t3 := tmod_b qx
  have t4 := tmod_b qy
  have t5 := tmod_b sx
  have t6 := tmod_b sy
  obtain ⟨s1, e1, e2, e3, e4, e5, e6, e7, e8⟩ := parts _ _ _ _ _ _ t1 t2 t3 t4 t5 t6
  have m1 := mulX_b (px.tmod 2097152) (py.tmod 2097152) (qx.tmod 2097152) (qy.tmod 2097152)
  have m2 := mulY_b (px.tmod 2097152) (py.tmod 2097152) (qx.tmod 2097152) (qy.tmod 2097152)
  have m3 := mulX_b (px.tmod 2097152) (py.tmod 2097152) (sx.tmod 2097152) (sy.tmod 2097152)
  have m4 := mulY_b (px.tmod 2097152) (py.tmod 2097152) (sx.tmod 2097152) (sy.tmod 2097152)
  have v1 : IntKind.i64.wrap (qx.tmod 2097152 + sx.tmod 2097152) = qx.tmod 2097152 + sx.tmod 2097152 := IntWalk.i64_in _ (by omega)
  have v2 : IntKind.i64.wrap (qy.tmod 2097152 + sy.tmod 2097152) = qy.tmod 2097152 + sy.tmod 2097152 := IntWalk.i64_in _ (by omega)
  have v3 := IntWalk.i64_in (mulX (px.tmod 2097152) (py.tmod 2097152) (qx.tmod 2097152) (qy.tmod 2097152) + mulX (px.tmod 2097152) (py.tmod 2097152) (sx.tmod 2097152) (sy.tmod 2097152)) (by omega)
  have v4 := IntWalk.i64_in (mulY (px.tmod 2097152) (py.tmod 2097152) (qx.tmod 2097152) (qy.tmod 2097152) + mulY (px.tmod 2097152) (py.tmod 2097152) (sx.tmod 2097152) (sy.tmod 2097152)) (by omega)
  refine calls_pure (G := tys) w tysOK mixed Try.func3 (by rfl) (by rfl) (by rfl) ?_
  repeat' (refine N.go ?_; first | with_reducible refine N.eq ?_ | with_reducible refine N.obl rfl ?_ | with_reducible refine N.obl ⟨by kernel_rfl, by kernel_rfl⟩ ?_ | with_reducible refine N.forkT ?_ | with_reducible refine N.forkF ?_ | with_reducible refine N.obl (by decide) ?_ | with_reducible refine N.fork (fun hb => ?_) (fun hb => ?_) | with_reducible refine N.bin _ (eq_point _ rfl _ _ _ _ _ _) ?_ | with_reducible refine N.call (cMul _ _ _ _ _) ?_ | with_reducible refine N.call (cQuarter _ _ _ _) ?_ | with_reducible refine N.call (cMay _ _ _) ?_ | with_reducible refine N.call (cAwake _) ?_)
  all_goals first
    | rfl
    | (exfalso; simp [v1, v2, v3, v4, e1, e2, e3, e4, e5, e6, e7, e8, s1] at hb)
set_option maxRecDepth 100000 in
theorem lifted (os : Os) (started : os.Started) (H : Type) (enc : TypeId × Value → H) :
    ReturnsInHanded {} Try.checked os 3 .any (Rows.turnPartsSpec.pre6 enc Try.prog Try.f3 Rows.turnPartsRow.domain false) (Rows.turnPartsSpec.post enc Try.prog Try.f3 false true false false) := by
  refine law_lifted (C := Try.checked) (tb := 4) Try.own started (by kernel_rfl) Try.func3 Try.laidOut (by kernel_rfl) rfl Try.underlying4 rfl
    (fun ds hds => by match ds, hds with | [_, _, _], _ => rfl)
    (ChangeSpec.witness6 (enc := enc) (C := Try.checked) false ⟨#[], #[.agg #[.int .i64 0, .int .i64 0], .agg #[.int .i64 0, .int .i64 0], .agg #[.int .i64 0, .int .i64 0]], []⟩ 8 (by kernel_rfl) (by kernel_rfl) (by kernel_rfl) (by kernel_rfl)) ?_
  intro W base args ds p hval0 hA0 hsz0
  have hval : ∀ (j : Nat) t v, Try.f3.params[j]? = some t → args[j]? = some v → Value.okWide Try.prog W .any base t v := hval0
  have hA : DataW.TrodAll enc Try.prog W 0 (fun _ => true) true Try.f3.params.toList args.toList ds p := hA0
  have hsz : (DataW.weightsEach Try.prog Try.f3.params.toList ds).all (· ≤ reachBytes) = true := hsz0
  rw [Try.params3] at hA hval hsz
  obtain ⟨v0, vs0, d0, ds0, p0, q0, hargs, rfl, rfl, h0, r0⟩ := trodAll_cons hA
  obtain ⟨v1, vs1, d1, ds1, p1, q1, rfl, rfl, rfl, h1, r1⟩ := trodAll_cons r0
  obtain ⟨v2, vs2, d2, ds2, p2, q2, rfl, rfl, rfl, h2, r2⟩ := trodAll_cons r1
  obtain ⟨rfl, rfl, rfl⟩ := trodAll_nil r2
  obtain rfl : args = #[v0, v1, v2] := by cases args; simp_all
  obtain ⟨x0, y0, rfl, wx0, wy0⟩ := open_point (hval 0 _ v0 rfl rfl) h0
  obtain ⟨x1, y1, rfl, wx1, wy1⟩ := open_point (hval 1 _ v1 rfl rfl) h1
  obtain ⟨x2, y2, rfl, wx2, wy2⟩ := open_point (hval 2 _ v2 rfl rfl) h2
  exact walk x0 y0 x1 y1 x2 y2 W

theorem proved : Rows.TurnPartsSaid :=
  OpenClaim.holds_of_wide 3 Try.f3 rfl rfl rfl rfl rfl rfl rfl ⟨rfl, rfl, rfl, rfl, rfl⟩ rfl rfl rfl rfl rfl (by kernel_rfl) Try.func3 (by kernel_rfl)
    (of_decide_eq_true (by kernel_rfl)) (by unfold Func.isWrapper; rw [if_neg (by decide +kernel)]; exact ⟨rfl, rfl⟩)
    (fun os started H enc _ => lifted os started H enc)
#print axioms proved
end Go.Proofs.Ytkjeebabcdnjkaa.turnParts
