/-
  The walks of truth: New of a config that may not be.
-/
import Derived.Test.YtfpmmahonddpoaaTr8
set_option linter.unusedVariables false
set_option linter.unusedSimpArgs false
namespace Go.Proofs.Ytfpmmahonddpoaa
open Go Go.ChangeShapes Go.WideShapes Go.ChangeAt Go.RowKit Sx

set_option maxRecDepth 100000 in
theorem newnil_x (c : Nat → Int) (hc : ¬ mayC c) (w : World) : Calls Try.prog 9 #[cfgV c] w fun e w' => e = .returned (.pointer none) ∧ Below w.heap.size w w' := by
  refine calls_pure (G := tys) w tysOK mixed Try.func9 (by rfl) (by first | rfl | (simp only [List.all_cons, List.all_nil, plain_wz, plain_lim, plain_wi]; rfl)) (by first | exact plain3_wz _ | exact plain3_wi _ _ _ | rfl | (simp only [plain3, List.all_cons, List.all_nil, plain_wz, plain_lim, plain_wi]; rfl)) ?_
  repeat' (refine N.go ?_; first | with_reducible refine N.obl (by decide) ?_ | with_reducible refine N.obl (flat_wi _ _ _) ?_ | with_reducible refine N.obl (flat_lim _ _) ?_ | with_reducible refine N.eq ?_ | with_reducible refine N.obl rfl ?_ | with_reducible refine N.obl ⟨by kernel_rfl, by kernel_rfl⟩ ?_ | with_reducible refine N.forkT ?_ | with_reducible refine N.forkF ?_ | with_reducible refine N.call (cTmay _ _) ?_ | refine N.forkNo (by rw [decide_eq_true (by assumption)]; rfl) ?_ | refine N.forkYes (by rw [decide_eq_false (by assumption)]; rfl) ?_ | refine N.forkYes (decide_eq_true (by assumption)) ?_ | refine N.forkNo (decide_eq_false (by assumption)) ?_)
  all_goals rfl
theorem cNewNil (c : Nat → Int) (h : List (Option Chunk)) (hc : ¬ mayC c) : CallOK Try.prog 9 [cfgV c] h (.pointer none) [] [] :=
  call_pure rfl rfl (Try.call9 _) (newnil_x c hc)
set_option maxRecDepth 100000 in
theorem open_config {H : Type} {enc : TypeId × Value → H} {W : World} {r : Reach} {base : Nat} {v : Value} {d : DataW H} {p : List MemPlace}
    (hv : Value.okWide Try.prog W r base 24 v) (h : DataW.Trod enc Try.prog W 0 (fun _ => true) true 24 v d p) :
    ∃ x0 x1 x2 x3 x4 x5 x6 x7 x8 x9 x10 : Int, v = .agg #[.int .i64 x0, .int .i64 x1, .int .i64 x2, .int .i64 x3, .int .i64 x4, .int .i64 x5, .int .i64 x6, .int .i64 x7, .int .i64 x8, .int .i64 x9, .int .i64 x10] := by
  obtain ⟨cs, rfl, hs⟩ := okWide_struct Try.underlying24 hv
  have hs2 : cs.size = 11 := hs.trans (by kernel_rfl)
  obtain ⟨l⟩ := cs
  match l, hs2 with
  | [c0, c1, c2, c3, c4, c5, c6, c7, c8, c9, c10], _ =>
    obtain ⟨fuel, hf⟩ := h
    have hf' : DataW.trod enc Try.prog W 0 (fun _ => true) true fuel 24 [c0, c1, c2, c3, c4, c5, c6, c7, c8, c9, c10] = some (d, p) := hf
    obtain ⟨k0, w0⟩ := leaf_int (d := 3) (l := 3) (j := 0) (u := c0) (by kernel_rfl) (@Try.underlying3) rfl hf'
    obtain ⟨k1, w1⟩ := leaf_int (d := 3) (l := 3) (j := 1) (u := c1) (by kernel_rfl) (@Try.underlying3) rfl hf'
    obtain ⟨k2, w2⟩ := leaf_int (d := 3) (l := 2) (j := 2) (u := c2) (by kernel_rfl) (@Try.underlying2) rfl hf'
    obtain ⟨k3, w3⟩ := leaf_int (d := 3) (l := 2) (j := 3) (u := c3) (by kernel_rfl) (@Try.underlying2) rfl hf'
    obtain ⟨k4, w4⟩ := leaf_int (d := 3) (l := 2) (j := 4) (u := c4) (by kernel_rfl) (@Try.underlying2) rfl hf'
    obtain ⟨k5, w5⟩ := leaf_int (d := 3) (l := 2) (j := 5) (u := c5) (by kernel_rfl) (@Try.underlying2) rfl hf'
    obtain ⟨k6, w6⟩ := leaf_int (d := 3) (l := 2) (j := 6) (u := c6) (by kernel_rfl) (@Try.underlying2) rfl hf'
    obtain ⟨k7, w7⟩ := leaf_int (d := 3) (l := 2) (j := 7) (u := c7) (by kernel_rfl) (@Try.underlying2) rfl hf'
    obtain ⟨k8, w8⟩ := leaf_int (d := 3) (l := 2) (j := 8) (u := c8) (by kernel_rfl) (@Try.underlying2) rfl hf'
    obtain ⟨k9, w9⟩ := leaf_int (d := 3) (l := 3) (j := 9) (u := c9) (by kernel_rfl) (@Try.underlying3) rfl hf'
    obtain ⟨k10, w10⟩ := leaf_int (d := 3) (l := 2) (j := 10) (u := c10) (by kernel_rfl) (@Try.underlying2) rfl hf'
    exact ⟨_, _, _, _, _, _, _, _, _, _, _, by rw [k0, k1, k2, k3, k4, k5, k6, k7, k8, k9, k10]⟩
end Go.Proofs.Ytfpmmahonddpoaa
