/-
  The walks of truth: Move.
-/
import Derived.Test.YtfpmmahonddpoaaTr4
import Derived.Laws.ComplexArith
set_option linter.unusedVariables false
set_option linter.unusedSimpArgs false
namespace Go.Proofs.Ytfpmmahonddpoaa
open Go Go.RowKit Sx

theorem sub_cx (x y : Operand) {a b c d r s : Nat} (hr : floatBits .sub .f64 a c = some r) (hs : floatBits .sub .f64 b d = some s) : BinIs Try.prog .sub 57 x y (.complex .f64 a b) (.complex .f64 c d) (.complex .f64 r s) :=
  ⟨rfl, rfl, rfl, fun w => by
    go_simp
    exact run_complex_sum _ _ (.inr rfl) _ _ _ _ _ _ _ _ (by unfold cSumBits; rw [hr, hs]; rfl)⟩
/-- A vector is a step, or Of tells nothing of it. -/
theorem ofz_no {x y : Int} (h : stp x y = true) (hn : (!(x == 0 && y == 0)) = true) : (decide (cx x y = 0) && decide (cy x y = 0)) = false := by
  rw [(norm_stp h).1, (norm_stp h).2]
  cases e : (decide (x = 0) && decide (y = 0)) with
  | false => rfl
  | true =>
    rw [Bool.and_eq_true, decide_eq_true_eq, decide_eq_true_eq] at e
    obtain ⟨rfl, rfl⟩ := e
    exact absurd hn (by decide)
theorem ofz_yes {x y : Int} (h : stp x y = false) : (decide (cx x y = 0) && decide (cy x y = 0)) = true ∧ (!(x == 0 && y == 0)) = true := by
  have e1 : cx x y = 0 := by unfold cx; rw [h]; rfl
  have e2 : cy x y = 0 := by unfold cy; rw [h]; rfl
  refine ⟨by rw [e1, e2]; rfl, ?_⟩
  cases e : (x == 0 && y == 0) with
  | false => rfl
  | true =>
    rw [Bool.and_eq_true, beq_iff_eq, beq_iff_eq] at e
    obtain ⟨rfl, rfl⟩ := e
    exact absurd h (by decide)
theorem reads_mv {o : Bool} {n p : Nat} {M : Nat → Bool} (h : p < n) : Reads (mvP o n M) p false 1 (.bool (M p)) :=
  ⟨h, rfl, seg_at h⟩
theorem reads_px {o : Bool} {n p : Nat} {P : Nat → Int} (h : p < n) : Reads (ptP o n P) (p * 2 + 0) false 1 (.int .i64 (P (p * 2))) :=
  ⟨by show p * 2 + 0 < n * 2; omega, rfl, seg_at (by omega)⟩
theorem reads_py {o : Bool} {n p : Nat} {P : Nat → Int} (h : p < n) : Reads (ptP o n P) (p * 2 + 1) false 1 (.int .i64 (P (p * 2 + 1))) :=
  ⟨by show p * 2 + 1 < n * 2; omega, rfl, seg_at (by omega)⟩
set_option maxRecDepth 100000 in
set_option maxHeartbeats 2000000 in
theorem cMoveA (c : Nat → Int) (n cap i j k : Nat) (P : Nat → Int) (M : Nat → Bool) (tm st : Int) (o1 o2 o3 : Bool) (p : Nat) (px py qx qy : Int) (h : List (Option Chunk)) (hi : h[i]? = some (some (wcc o1 c n cap j k tm st))) (hj : h[j]? = some (some (ptP o2 n P))) (hk : h[k]? = some (some (mvP o3 n M))) (hp : p < n) (hc2 : 0 ≤ c 2 ∧ c 2 ≤ 1000) (hc3 : 0 ≤ c 3 ∧ c 3 ≤ 1000) (hsp : stp px py = false) :
    CallOK Try.prog 12 [.pointer (some ⟨i, 0, some 0⟩), .int .i64 (p : Int), .agg #[.int .i64 px, .int .i64 py], .agg #[.int .i64 qx, .int .i64 qy]] h (.int .i64 1) [] [i, j, k] := by
  have bx := cx_b px py
  have bY := cy_b px py
  have dx := cx_b qx qy
  have dy := cy_b qx qy
  obtain ⟨r, hr, wr⟩ := FZ.W.sub (w_ofR qx qy) (w_ofR px py) (by omega)
  obtain ⟨s, hs, ws⟩ := FZ.W.sub (w_ofI qx qy) (w_ofI px py) (by omega)
  refine call_sub (G := tys) [⟨i, _, wcc false c n cap 1 2 tm st, ⟨false, 0, []⟩⟩, ⟨j, _, ptP false n P, ⟨false, 0, []⟩⟩, ⟨k, _, mvP false n M, ⟨false, 0, []⟩⟩] [] [.pointer (some ⟨0, 0, some 0⟩), .int .i64 (p : Int), .agg #[.int .i64 px, .int .i64 py], .agg #[.int .i64 qx, .int .i64 qy]] tysOK mixed Try.func12 (by rfl) (Try.call12) ⟨hi, hj, hk, trivial⟩ ⟨⟨fun h => (by cases h), Nat.le_refl _, wcc_re rfl rfl⟩, ⟨fun h => (by cases h), Nat.le_refl _, ptP_re⟩, ⟨fun h => (by cases h), Nat.le_refl _, mvP_re⟩, trivial⟩ (by simp [Apart]) trivial ⟨.ptr rfl, .plain rfl, .plain rfl, .plain rfl, trivial⟩ ?_
  repeat' (refine N.go ?_; first | with_reducible refine N.obl (by decide) ?_ | with_reducible refine N.obl (flat_wi _ _ _) ?_ | with_reducible refine N.obl (flat_lim _ _) ?_ | with_reducible refine N.eq ?_ | with_reducible refine N.obl rfl ?_ | with_reducible refine N.obl ⟨by kernel_rfl, by kernel_rfl⟩ ?_ | with_reducible refine N.forkT ?_ | with_reducible refine N.forkF ?_ | with_reducible refine N.bin _ (ne_point _ _ _ _ _ _) ?_ | with_reducible refine N.bin _ (eq_cx 0 _ _ (w_ofR _ _) (w_ofI _ _)) ?_ | refine N.bin _ (sub_cx _ _ hr hs) ?_ | with_reducible refine N.call (cTOf _ _ _) ?_ | refine N.call (cShort _ _ _ _ _ _ (w_ofR _ _) (w_ofI _ _) (by omega) (by omega) hc2) ?_ | refine N.call (cShort _ _ _ _ _ _ wr ws (by omega) (by omega) hc3) ?_ | with_reducible refine N.call (cMayPoint _ _ _) ?_ | refine N.call (cHas c n cap _ _ _ P M tm st _ _ _ _ _ (by rfl) (by rfl) (by rfl)) ?_ | refine N.forkNo (by simp only [decide_eq_true_eq, decide_eq_false_iff_not, Bool.not_eq_eq_eq_not, Bool.not_true, Bool.not_false]; omega) ?_ | refine N.forkYes (by simp only [decide_eq_true_eq, decide_eq_false_iff_not, Bool.not_eq_eq_eq_not, Bool.not_true, Bool.not_false]; omega) ?_ | refine N.idx p 1 rfl hp ?_ | refine N.load _ (reads_pt hp) ?_ | refine N.forkYes ((ofz_yes hsp).1) ?_ | refine N.forkNo ((ofz_yes hsp).1) ?_ | refine N.forkYes ((ofz_yes hsp).2) ?_ | refine N.forkNo ((ofz_yes hsp).2) ?_ | refine N.obl trivial ?_ | exact N.true | refine N.obl (.plain rfl) ?_)
set_option maxRecDepth 100000 in
set_option maxHeartbeats 2000000 in
theorem cMoveB (c : Nat → Int) (n cap i j k : Nat) (P : Nat → Int) (M : Nat → Bool) (tm st : Int) (o1 o2 o3 : Bool) (p : Nat) (px py qx qy : Int) (h : List (Option Chunk)) (hi : h[i]? = some (some (wcc o1 c n cap j k tm st))) (hj : h[j]? = some (some (ptP o2 n P))) (hk : h[k]? = some (some (mvP o3 n M))) (hp : p < n) (hc2 : 0 ≤ c 2 ∧ c 2 ≤ 1000) (hc3 : 0 ≤ c 3 ∧ c 3 ≤ 1000) (hsp : stp px py = true) (hsq : stp qx qy = false) :
    CallOK Try.prog 12 [.pointer (some ⟨i, 0, some 0⟩), .int .i64 (p : Int), .agg #[.int .i64 px, .int .i64 py], .agg #[.int .i64 qx, .int .i64 qy]] h (.int .i64 1) [] [i, j, k] := by
  have bx := cx_b px py
  have bY := cy_b px py
  have dx := cx_b qx qy
  have dy := cy_b qx qy
  obtain ⟨r, hr, wr⟩ := FZ.W.sub (w_ofR qx qy) (w_ofR px py) (by omega)
  obtain ⟨s, hs, ws⟩ := FZ.W.sub (w_ofI qx qy) (w_ofI px py) (by omega)
  refine call_sub (G := tys) [⟨i, _, wcc false c n cap 1 2 tm st, ⟨false, 0, []⟩⟩, ⟨j, _, ptP false n P, ⟨false, 0, []⟩⟩, ⟨k, _, mvP false n M, ⟨false, 0, []⟩⟩] [] [.pointer (some ⟨0, 0, some 0⟩), .int .i64 (p : Int), .agg #[.int .i64 px, .int .i64 py], .agg #[.int .i64 qx, .int .i64 qy]] tysOK mixed Try.func12 (by rfl) (Try.call12) ⟨hi, hj, hk, trivial⟩ ⟨⟨fun h => (by cases h), Nat.le_refl _, wcc_re rfl rfl⟩, ⟨fun h => (by cases h), Nat.le_refl _, ptP_re⟩, ⟨fun h => (by cases h), Nat.le_refl _, mvP_re⟩, trivial⟩ (by simp [Apart]) trivial ⟨.ptr rfl, .plain rfl, .plain rfl, .plain rfl, trivial⟩ ?_
  repeat' (refine N.go ?_; first | with_reducible refine N.obl (by decide) ?_ | with_reducible refine N.obl (flat_wi _ _ _) ?_ | with_reducible refine N.obl (flat_lim _ _) ?_ | with_reducible refine N.eq ?_ | with_reducible refine N.obl rfl ?_ | with_reducible refine N.obl ⟨by kernel_rfl, by kernel_rfl⟩ ?_ | with_reducible refine N.forkT ?_ | with_reducible refine N.forkF ?_ | with_reducible refine N.bin _ (ne_point _ _ _ _ _ _) ?_ | with_reducible refine N.bin _ (eq_cx 0 _ _ (w_ofR _ _) (w_ofI _ _)) ?_ | refine N.bin _ (sub_cx _ _ hr hs) ?_ | with_reducible refine N.call (cTOf _ _ _) ?_ | refine N.call (cShort _ _ _ _ _ _ (w_ofR _ _) (w_ofI _ _) (by omega) (by omega) hc2) ?_ | refine N.call (cShort _ _ _ _ _ _ wr ws (by omega) (by omega) hc3) ?_ | with_reducible refine N.call (cMayPoint _ _ _) ?_ | refine N.call (cHas c n cap _ _ _ P M tm st _ _ _ _ _ (by rfl) (by rfl) (by rfl)) ?_ | refine N.forkNo (by simp only [decide_eq_true_eq, decide_eq_false_iff_not, Bool.not_eq_eq_eq_not, Bool.not_true, Bool.not_false]; omega) ?_ | refine N.forkYes (by simp only [decide_eq_true_eq, decide_eq_false_iff_not, Bool.not_eq_eq_eq_not, Bool.not_true, Bool.not_false]; omega) ?_ | refine N.idx p 1 rfl hp ?_ | refine N.load _ (reads_pt hp) ?_ | refine N.forkYes (ofz_no hsp (by assumption)) ?_ | refine N.forkNo (ofz_no hsp (by assumption)) ?_ | refine N.forkYes ((ofz_yes hsq).1) ?_ | refine N.forkNo ((ofz_yes hsq).1) ?_ | refine N.forkYes ((ofz_yes hsq).2) ?_ | refine N.forkNo ((ofz_yes hsq).2) ?_ | with_reducible refine N.fork (fun hb => ?_) (fun hb => ?_) | refine N.obl trivial ?_ | exact N.true | refine N.obl (.plain rfl) ?_)
set_option maxRecDepth 100000 in
set_option maxHeartbeats 2000000 in
theorem cMoveC (c : Nat → Int) (n cap i j k : Nat) (P : Nat → Int) (M : Nat → Bool) (tm st : Int) (o1 o2 o3 : Bool) (p : Nat) (px py qx qy : Int) (h : List (Option Chunk)) (hi : h[i]? = some (some (wcc o1 c n cap j k tm st))) (hj : h[j]? = some (some (ptP o2 n P))) (hk : h[k]? = some (some (mvP o3 n M))) (hp : p < n) (hc2 : 0 ≤ c 2 ∧ c 2 ≤ 1000) (hc3 : 0 ≤ c 3 ∧ c 3 ≤ 1000) (hsp : stp px py = true) (hsq : stp qx qy = true) (hsh : shortB (cx px py) (cy px py) (c 2) = false) :
    CallOK Try.prog 12 [.pointer (some ⟨i, 0, some 0⟩), .int .i64 (p : Int), .agg #[.int .i64 px, .int .i64 py], .agg #[.int .i64 qx, .int .i64 qy]] h (.int .i64 1) [] [i, j, k] := by
  have bx := cx_b px py
  have bY := cy_b px py
  have dx := cx_b qx qy
  have dy := cy_b qx qy
  obtain ⟨r, hr, wr⟩ := FZ.W.sub (w_ofR qx qy) (w_ofR px py) (by omega)
  obtain ⟨s, hs, ws⟩ := FZ.W.sub (w_ofI qx qy) (w_ofI px py) (by omega)
  refine call_sub (G := tys) [⟨i, _, wcc false c n cap 1 2 tm st, ⟨false, 0, []⟩⟩, ⟨j, _, ptP false n P, ⟨false, 0, []⟩⟩, ⟨k, _, mvP false n M, ⟨false, 0, []⟩⟩] [] [.pointer (some ⟨0, 0, some 0⟩), .int .i64 (p : Int), .agg #[.int .i64 px, .int .i64 py], .agg #[.int .i64 qx, .int .i64 qy]] tysOK mixed Try.func12 (by rfl) (Try.call12) ⟨hi, hj, hk, trivial⟩ ⟨⟨fun h => (by cases h), Nat.le_refl _, wcc_re rfl rfl⟩, ⟨fun h => (by cases h), Nat.le_refl _, ptP_re⟩, ⟨fun h => (by cases h), Nat.le_refl _, mvP_re⟩, trivial⟩ (by simp [Apart]) trivial ⟨.ptr rfl, .plain rfl, .plain rfl, .plain rfl, trivial⟩ ?_
  repeat' (refine N.go ?_; first | with_reducible refine N.obl (by decide) ?_ | with_reducible refine N.obl (flat_wi _ _ _) ?_ | with_reducible refine N.obl (flat_lim _ _) ?_ | with_reducible refine N.eq ?_ | with_reducible refine N.obl rfl ?_ | with_reducible refine N.obl ⟨by kernel_rfl, by kernel_rfl⟩ ?_ | with_reducible refine N.forkT ?_ | with_reducible refine N.forkF ?_ | with_reducible refine N.bin _ (ne_point _ _ _ _ _ _) ?_ | with_reducible refine N.bin _ (eq_cx 0 _ _ (w_ofR _ _) (w_ofI _ _)) ?_ | refine N.bin _ (sub_cx _ _ hr hs) ?_ | with_reducible refine N.call (cTOf _ _ _) ?_ | refine N.call (cShort _ _ _ _ _ _ (w_ofR _ _) (w_ofI _ _) (by omega) (by omega) hc2) ?_ | refine N.call (cShort _ _ _ _ _ _ wr ws (by omega) (by omega) hc3) ?_ | with_reducible refine N.call (cMayPoint _ _ _) ?_ | refine N.call (cHas c n cap _ _ _ P M tm st _ _ _ _ _ (by rfl) (by rfl) (by rfl)) ?_ | refine N.forkNo (by simp only [decide_eq_true_eq, decide_eq_false_iff_not, Bool.not_eq_eq_eq_not, Bool.not_true, Bool.not_false]; omega) ?_ | refine N.forkYes (by simp only [decide_eq_true_eq, decide_eq_false_iff_not, Bool.not_eq_eq_eq_not, Bool.not_true, Bool.not_false]; omega) ?_ | refine N.idx p 1 rfl hp ?_ | refine N.load _ (reads_pt hp) ?_ | refine N.forkYes (ofz_no hsp (by assumption)) ?_ | refine N.forkNo (ofz_no hsp (by assumption)) ?_ | refine N.forkYes (ofz_no hsq (by assumption)) ?_ | refine N.forkNo (ofz_no hsq (by assumption)) ?_ | refine N.forkYes (hsh) ?_ | refine N.forkNo (hsh) ?_ | refine N.forkYes (by rw [hsh]; rfl) ?_ | refine N.forkNo (by rw [hsh]; rfl) ?_ | with_reducible refine N.fork (fun hb => ?_) (fun hb => ?_) | refine N.obl trivial ?_ | exact N.true | refine N.obl (.plain rfl) ?_)
set_option maxRecDepth 100000 in
set_option maxHeartbeats 2000000 in
theorem cMoveD (c : Nat → Int) (n cap i j k : Nat) (P : Nat → Int) (M : Nat → Bool) (tm st : Int) (o1 o2 o3 : Bool) (p : Nat) (px py qx qy : Int) (h : List (Option Chunk)) (hi : h[i]? = some (some (wcc o1 c n cap j k tm st))) (hj : h[j]? = some (some (ptP o2 n P))) (hk : h[k]? = some (some (mvP o3 n M))) (hp : p < n) (hc2 : 0 ≤ c 2 ∧ c 2 ≤ 1000) (hc3 : 0 ≤ c 3 ∧ c 3 ≤ 1000) (hsp : stp px py = true) (hsq : stp qx qy = true) (hsh : shortB (cx px py) (cy px py) (c 2) = true) (hsg : shortB (cx qx qy - cx px py) (cy qx qy - cy px py) (c 3) = false) :
    CallOK Try.prog 12 [.pointer (some ⟨i, 0, some 0⟩), .int .i64 (p : Int), .agg #[.int .i64 px, .int .i64 py], .agg #[.int .i64 qx, .int .i64 qy]] h (.int .i64 1) [] [i, j, k] := by
  have bx := cx_b px py
  have bY := cy_b px py
  have dx := cx_b qx qy
  have dy := cy_b qx qy
  obtain ⟨r, hr, wr⟩ := FZ.W.sub (w_ofR qx qy) (w_ofR px py) (by omega)
  obtain ⟨s, hs, ws⟩ := FZ.W.sub (w_ofI qx qy) (w_ofI px py) (by omega)
  refine call_sub (G := tys) [⟨i, _, wcc false c n cap 1 2 tm st, ⟨false, 0, []⟩⟩, ⟨j, _, ptP false n P, ⟨false, 0, []⟩⟩, ⟨k, _, mvP false n M, ⟨false, 0, []⟩⟩] [] [.pointer (some ⟨0, 0, some 0⟩), .int .i64 (p : Int), .agg #[.int .i64 px, .int .i64 py], .agg #[.int .i64 qx, .int .i64 qy]] tysOK mixed Try.func12 (by rfl) (Try.call12) ⟨hi, hj, hk, trivial⟩ ⟨⟨fun h => (by cases h), Nat.le_refl _, wcc_re rfl rfl⟩, ⟨fun h => (by cases h), Nat.le_refl _, ptP_re⟩, ⟨fun h => (by cases h), Nat.le_refl _, mvP_re⟩, trivial⟩ (by simp [Apart]) trivial ⟨.ptr rfl, .plain rfl, .plain rfl, .plain rfl, trivial⟩ ?_
  repeat' (refine N.go ?_; first | with_reducible refine N.obl (by decide) ?_ | with_reducible refine N.obl (flat_wi _ _ _) ?_ | with_reducible refine N.obl (flat_lim _ _) ?_ | with_reducible refine N.eq ?_ | with_reducible refine N.obl rfl ?_ | with_reducible refine N.obl ⟨by kernel_rfl, by kernel_rfl⟩ ?_ | with_reducible refine N.forkT ?_ | with_reducible refine N.forkF ?_ | with_reducible refine N.bin _ (ne_point _ _ _ _ _ _) ?_ | with_reducible refine N.bin _ (eq_cx 0 _ _ (w_ofR _ _) (w_ofI _ _)) ?_ | refine N.bin _ (sub_cx _ _ hr hs) ?_ | with_reducible refine N.call (cTOf _ _ _) ?_ | refine N.call (cShort _ _ _ _ _ _ (w_ofR _ _) (w_ofI _ _) (by omega) (by omega) hc2) ?_ | refine N.call (cShort _ _ _ _ _ _ wr ws (by omega) (by omega) hc3) ?_ | with_reducible refine N.call (cMayPoint _ _ _) ?_ | refine N.call (cHas c n cap _ _ _ P M tm st _ _ _ _ _ (by rfl) (by rfl) (by rfl)) ?_ | refine N.forkNo (by simp only [decide_eq_true_eq, decide_eq_false_iff_not, Bool.not_eq_eq_eq_not, Bool.not_true, Bool.not_false]; omega) ?_ | refine N.forkYes (by simp only [decide_eq_true_eq, decide_eq_false_iff_not, Bool.not_eq_eq_eq_not, Bool.not_true, Bool.not_false]; omega) ?_ | refine N.idx p 1 rfl hp ?_ | refine N.load _ (reads_pt hp) ?_ | refine N.forkYes (ofz_no hsp (by assumption)) ?_ | refine N.forkNo (ofz_no hsp (by assumption)) ?_ | refine N.forkYes (ofz_no hsq (by assumption)) ?_ | refine N.forkNo (ofz_no hsq (by assumption)) ?_ | refine N.forkYes (hsh) ?_ | refine N.forkNo (hsh) ?_ | refine N.forkYes (by rw [hsh]; rfl) ?_ | refine N.forkNo (by rw [hsh]; rfl) ?_ | refine N.forkYes (hsg) ?_ | refine N.forkNo (hsg) ?_ | refine N.forkYes (by rw [hsg]; rfl) ?_ | refine N.forkNo (by rw [hsg]; rfl) ?_ | with_reducible refine N.fork (fun hb => ?_) (fun hb => ?_) | refine N.obl trivial ?_ | exact N.true | refine N.obl (.plain rfl) ?_)
set_option maxRecDepth 100000 in
set_option maxHeartbeats 2000000 in
theorem cMoveE (c : Nat → Int) (n cap i j k : Nat) (P : Nat → Int) (M : Nat → Bool) (tm st : Int) (o1 o2 o3 : Bool) (p : Nat) (px py qx qy : Int) (h : List (Option Chunk)) (hi : h[i]? = some (some (wcc o1 c n cap j k tm st))) (hj : h[j]? = some (some (ptP o2 n P))) (hk : h[k]? = some (some (mvP o3 n M))) (hp : p < n) (hc2 : 0 ≤ c 2 ∧ c 2 ≤ 1000) (hc3 : 0 ≤ c 3 ∧ c 3 ≤ 1000) (hsp : stp px py = true) (hsq : stp qx qy = true) (hsh : shortB (cx px py) (cy px py) (c 2) = true) (hsg : shortB (cx qx qy - cx px py) (cy qx qy - cy px py) (c 3) = true) (hM : M p = true) :
    CallOK Try.prog 12 [.pointer (some ⟨i, 0, some 0⟩), .int .i64 (p : Int), .agg #[.int .i64 px, .int .i64 py], .agg #[.int .i64 qx, .int .i64 qy]] h (.int .i64 10) [] [i, j, k] := by
  have bx := cx_b px py
  have bY := cy_b px py
  have dx := cx_b qx qy
  have dy := cy_b qx qy
  obtain ⟨r, hr, wr⟩ := FZ.W.sub (w_ofR qx qy) (w_ofR px py) (by omega)
  obtain ⟨s, hs, ws⟩ := FZ.W.sub (w_ofI qx qy) (w_ofI px py) (by omega)
  refine call_sub (G := tys) [⟨i, _, wcc false c n cap 1 2 tm st, ⟨false, 0, []⟩⟩, ⟨j, _, ptP false n P, ⟨false, 0, []⟩⟩, ⟨k, _, mvP false n M, ⟨false, 0, []⟩⟩] [] [.pointer (some ⟨0, 0, some 0⟩), .int .i64 (p : Int), .agg #[.int .i64 px, .int .i64 py], .agg #[.int .i64 qx, .int .i64 qy]] tysOK mixed Try.func12 (by rfl) (Try.call12) ⟨hi, hj, hk, trivial⟩ ⟨⟨fun h => (by cases h), Nat.le_refl _, wcc_re rfl rfl⟩, ⟨fun h => (by cases h), Nat.le_refl _, ptP_re⟩, ⟨fun h => (by cases h), Nat.le_refl _, mvP_re⟩, trivial⟩ (by simp [Apart]) trivial ⟨.ptr rfl, .plain rfl, .plain rfl, .plain rfl, trivial⟩ ?_
  repeat' (refine N.go ?_; first | with_reducible refine N.obl (by decide) ?_ | with_reducible refine N.obl (flat_wi _ _ _) ?_ | with_reducible refine N.obl (flat_lim _ _) ?_ | with_reducible refine N.eq ?_ | with_reducible refine N.obl rfl ?_ | with_reducible refine N.obl ⟨by kernel_rfl, by kernel_rfl⟩ ?_ | with_reducible refine N.forkT ?_ | with_reducible refine N.forkF ?_ | with_reducible refine N.bin _ (ne_point _ _ _ _ _ _) ?_ | with_reducible refine N.bin _ (eq_cx 0 _ _ (w_ofR _ _) (w_ofI _ _)) ?_ | refine N.bin _ (sub_cx _ _ hr hs) ?_ | with_reducible refine N.call (cTOf _ _ _) ?_ | refine N.call (cShort _ _ _ _ _ _ (w_ofR _ _) (w_ofI _ _) (by omega) (by omega) hc2) ?_ | refine N.call (cShort _ _ _ _ _ _ wr ws (by omega) (by omega) hc3) ?_ | with_reducible refine N.call (cMayPoint _ _ _) ?_ | refine N.call (cHas c n cap _ _ _ P M tm st _ _ _ _ _ (by rfl) (by rfl) (by rfl)) ?_ | refine N.forkNo (by simp only [decide_eq_true_eq, decide_eq_false_iff_not, Bool.not_eq_eq_eq_not, Bool.not_true, Bool.not_false]; omega) ?_ | refine N.forkYes (by simp only [decide_eq_true_eq, decide_eq_false_iff_not, Bool.not_eq_eq_eq_not, Bool.not_true, Bool.not_false]; omega) ?_ | refine N.idx p 1 rfl hp ?_ | refine N.load _ (reads_pt hp) ?_ | refine N.forkYes (ofz_no hsp (by assumption)) ?_ | refine N.forkNo (ofz_no hsp (by assumption)) ?_ | refine N.forkYes (ofz_no hsq (by assumption)) ?_ | refine N.forkNo (ofz_no hsq (by assumption)) ?_ | refine N.forkYes (hsh) ?_ | refine N.forkNo (hsh) ?_ | refine N.forkYes (by rw [hsh]; rfl) ?_ | refine N.forkNo (by rw [hsh]; rfl) ?_ | refine N.forkYes (hsg) ?_ | refine N.forkNo (hsg) ?_ | refine N.forkYes (by rw [hsg]; rfl) ?_ | refine N.forkNo (by rw [hsg]; rfl) ?_ | refine N.forkYes (hM) ?_ | refine N.forkNo (hM) ?_ | refine N.forkYes (by rw [hM]; rfl) ?_ | refine N.forkNo (by rw [hM]; rfl) ?_ | refine N.load _ (reads_mv hp) ?_ | with_reducible refine N.fork (fun hb => ?_) (fun hb => ?_) | refine N.obl trivial ?_ | exact N.true | refine N.obl (.plain rfl) ?_)
set_option maxRecDepth 100000 in
set_option maxHeartbeats 2000000 in
theorem cMoveF (c : Nat → Int) (n cap i j k : Nat) (P : Nat → Int) (M : Nat → Bool) (tm st : Int) (o1 o2 o3 : Bool) (p : Nat) (px py qx qy : Int) (h : List (Option Chunk)) (hi : h[i]? = some (some (wcc o1 c n cap j k tm st))) (hj : h[j]? = some (some (ptP o2 n P))) (hk : h[k]? = some (some (mvP o3 n M))) (hp : p < n) (hc2 : 0 ≤ c 2 ∧ c 2 ≤ 1000) (hc3 : 0 ≤ c 3 ∧ c 3 ≤ 1000) (hsp : stp px py = true) (hsq : stp qx qy = true) (hsh : shortB (cx px py) (cy px py) (c 2) = true) (hsg : shortB (cx qx qy - cx px py) (cy qx qy - cy px py) (c 3) = true) (hM : M p = false) (hto : ¬ wiB (P (p * 2) + px) (P (p * 2 + 1) + py) 4194304) (hPb : wiB (P (p * 2)) (P (p * 2 + 1)) 4194304) :
    CallOK Try.prog 12 [.pointer (some ⟨i, 0, some 0⟩), .int .i64 (p : Int), .agg #[.int .i64 px, .int .i64 py], .agg #[.int .i64 qx, .int .i64 qy]] h (.int .i64 2) [] [i, j, k] := by
  have bx := cx_b px py
  have bY := cy_b px py
  have dx := cx_b qx qy
  have dy := cy_b qx qy
  obtain ⟨r, hr, wr⟩ := FZ.W.sub (w_ofR qx qy) (w_ofR px py) (by omega)
  obtain ⟨s, hs, ws⟩ := FZ.W.sub (w_ofI qx qy) (w_ofI px py) (by omega)
  have sp := stp_iff.1 hsp
  have e1 : IntKind.i64.wrap (P (p * 2) + px) = P (p * 2) + px := i64s _ (by have := hPb.1; omega) (by have := hPb.2.1; omega)
  have e2 : IntKind.i64.wrap (P (p * 2 + 1) + py) = P (p * 2 + 1) + py := i64s _ (by have := hPb.2.2.1; omega) (by have := hPb.2.2.2; omega)
  refine call_sub (G := tys) [⟨i, _, wcc false c n cap 1 2 tm st, ⟨false, 0, []⟩⟩, ⟨j, _, ptP false n P, ⟨false, 0, []⟩⟩, ⟨k, _, mvP false n M, ⟨false, 0, []⟩⟩] [] [.pointer (some ⟨0, 0, some 0⟩), .int .i64 (p : Int), .agg #[.int .i64 px, .int .i64 py], .agg #[.int .i64 qx, .int .i64 qy]] tysOK mixed Try.func12 (by rfl) (Try.call12) ⟨hi, hj, hk, trivial⟩ ⟨⟨fun h => (by cases h), Nat.le_refl _, wcc_re rfl rfl⟩, ⟨fun h => (by cases h), Nat.le_refl _, ptP_re⟩, ⟨fun h => (by cases h), Nat.le_refl _, mvP_re⟩, trivial⟩ (by simp [Apart]) trivial ⟨.ptr rfl, .plain rfl, .plain rfl, .plain rfl, trivial⟩ ?_
  repeat' (refine N.go ?_; first | with_reducible refine N.obl (by decide) ?_ | with_reducible refine N.obl (flat_wi _ _ _) ?_ | with_reducible refine N.obl (flat_lim _ _) ?_ | with_reducible refine N.eq ?_ | with_reducible refine N.obl rfl ?_ | with_reducible refine N.obl ⟨by kernel_rfl, by kernel_rfl⟩ ?_ | with_reducible refine N.forkT ?_ | with_reducible refine N.forkF ?_ | with_reducible refine N.bin _ (ne_point _ _ _ _ _ _) ?_ | with_reducible refine N.bin _ (eq_cx 0 _ _ (w_ofR _ _) (w_ofI _ _)) ?_ | refine N.bin _ (sub_cx _ _ hr hs) ?_ | with_reducible refine N.call (cTOf _ _ _) ?_ | refine N.call (cShort _ _ _ _ _ _ (w_ofR _ _) (w_ofI _ _) (by omega) (by omega) hc2) ?_ | refine N.call (cShort _ _ _ _ _ _ wr ws (by omega) (by omega) hc3) ?_ | with_reducible refine N.call (cMayPoint _ _ _) ?_ | refine N.call (cHas c n cap _ _ _ P M tm st _ _ _ _ _ (by rfl) (by rfl) (by rfl)) ?_ | refine N.forkNo (by simp only [decide_eq_true_eq, decide_eq_false_iff_not, Bool.not_eq_eq_eq_not, Bool.not_true, Bool.not_false]; omega) ?_ | refine N.forkYes (by simp only [decide_eq_true_eq, decide_eq_false_iff_not, Bool.not_eq_eq_eq_not, Bool.not_true, Bool.not_false]; omega) ?_ | refine N.idx p 1 rfl hp ?_ | refine N.load _ (reads_pt hp) ?_ | refine N.forkYes (ofz_no hsp (by assumption)) ?_ | refine N.forkNo (ofz_no hsp (by assumption)) ?_ | refine N.forkYes (ofz_no hsq (by assumption)) ?_ | refine N.forkNo (ofz_no hsq (by assumption)) ?_ | refine N.forkYes (hsh) ?_ | refine N.forkNo (hsh) ?_ | refine N.forkYes (by rw [hsh]; rfl) ?_ | refine N.forkNo (by rw [hsh]; rfl) ?_ | refine N.forkYes (hsg) ?_ | refine N.forkNo (hsg) ?_ | refine N.forkYes (by rw [hsg]; rfl) ?_ | refine N.forkNo (by rw [hsg]; rfl) ?_ | refine N.forkYes (hM) ?_ | refine N.forkNo (hM) ?_ | refine N.forkYes (by rw [hM]; rfl) ?_ | refine N.forkNo (by rw [hM]; rfl) ?_ | refine N.load _ (reads_mv hp) ?_ | refine N.load _ (reads_px hp) ?_ | refine N.load _ (reads_py hp) ?_ | refine N.forkYes (by rw [e1, e2, decide_eq_false hto]; rfl) ?_ | refine N.forkNo (by rw [e1, e2, decide_eq_false hto]; rfl) ?_ | with_reducible refine N.fork (fun hb => ?_) (fun hb => ?_) | refine N.obl trivial ?_ | exact N.true | refine N.obl (.plain rfl) ?_)
/-- The points and who has moved, when a node has moved. -/
def movP (P : Nat → Int) (p : Nat) (x y : Int) (j : Nat) : Int := if j = p * 2 then x else if j = p * 2 + 1 then y else P j
def movM (M : Nat → Bool) (p : Nat) (j : Nat) : Bool := if j = p then true else M j
theorem writes_pt {n p : Nat} {P : Nat → Int} {x y : Int} (h : p < n) : Writes (ptP true n P) (p * 2) (1 * 2) (.agg ⟨[.int .i64 x, .int .i64 y]⟩) (ptP true n (movP P p x y)) := by
  refine ⟨rfl, by show p * 2 + 1 * 2 ≤ n * 2; omega, rfl, fun j hj => ?_⟩
  have hj : j < n * 2 := hj
  rw [seg_at hj, seg_at hj]
  unfold movP
  by_cases h1 : j = p * 2
  · subst h1; rw [if_pos rfl, if_pos (by omega), Nat.sub_self]; rfl
  · by_cases h2 : j = p * 2 + 1
    · subst h2; rw [if_neg h1, if_pos rfl, if_pos (by omega), show p * 2 + 1 - p * 2 = 1 from by omega]; rfl
    · rw [if_neg h1, if_neg h2, if_neg (by omega)]
theorem writes_mv {n p : Nat} {M : Nat → Bool} (h : p < n) : Writes (mvP true n M) p 1 (.bool true) (mvP true n (movM M p)) := by
  refine ⟨rfl, by show p + 1 ≤ n; omega, rfl, fun j hj => ?_⟩
  have hj : j < n := hj
  rw [seg_at hj, seg_at hj]
  unfold movM
  by_cases h1 : j = p
  · subst h1; rw [if_pos rfl, if_pos (by omega), Nat.sub_self]; rfl
  · rw [if_neg h1, if_neg (by omega)]
theorem post_pt {ix : List (Nat × Nat)} {h : List (Option Chunk)} {k n p : Nat} {P : Nat → Int} {x y x' y' : Int} (hh : h[k]? = some (some (ptP true n (movP P p x' y')))) (hx : x' = x) (hy : y' = y) : PostC ix h k (ptP true n (movP P p x y)) := by
  subst hx hy; exact ⟨_, hh, id, Nat.le_refl _, ptP_re⟩
theorem post_mv {ix : List (Nat × Nat)} {h : List (Option Chunk)} {k n : Nat} {M : Nat → Bool} (hh : h[k]? = some (some (mvP true n M))) : PostC ix h k (mvP true n M) := ⟨_, hh, id, Nat.le_refl _, mvP_re⟩
set_option maxRecDepth 100000 in
set_option maxHeartbeats 2000000 in
theorem cMoveG (c : Nat → Int) (n cap i j k : Nat) (P : Nat → Int) (M : Nat → Bool) (tm st : Int) (o1 : Bool) (p : Nat) (px py qx qy : Int) (hij : i ≠ j) (hik : i ≠ k) (hjk : j ≠ k) (h : List (Option Chunk)) (hi : h[i]? = some (some (wcc o1 c n cap j k tm st))) (hj : h[j]? = some (some (ptP true n P))) (hk : h[k]? = some (some (mvP true n M)))
    (hp : p < n) (hc2 : 0 ≤ c 2 ∧ c 2 ≤ 1000) (hc3 : 0 ≤ c 3 ∧ c 3 ≤ 1000) (hsp : stp px py = true) (hsq : stp qx qy = true) (hsh : shortB (cx px py) (cy px py) (c 2) = true) (hsg : shortB (cx qx qy - cx px py) (cy qx qy - cy px py) (c 3) = true) (hM : M p = false) (hto : wiB (P (p * 2) + px) (P (p * 2 + 1) + py) 4194304) (hPb : wiB (P (p * 2)) (P (p * 2 + 1)) 4194304) :
    CallOK Try.prog 12 [.pointer (some ⟨i, 0, some 0⟩), .int .i64 (p : Int), .agg #[.int .i64 px, .int .i64 py], .agg #[.int .i64 qx, .int .i64 qy]] h (.int .i64 0) [(j, ptP true n (movP P p (P (p * 2) + px) (P (p * 2 + 1) + py))), (k, mvP true n (movM M p))] [i] := by
  have bx := cx_b px py
  have bY := cy_b px py
  have dx := cx_b qx qy
  have dy := cy_b qx qy
  obtain ⟨r, hr, wr⟩ := FZ.W.sub (w_ofR qx qy) (w_ofR px py) (by omega)
  obtain ⟨s, hs, ws⟩ := FZ.W.sub (w_ofI qx qy) (w_ofI px py) (by omega)
  have sp := stp_iff.1 hsp
  have e1 : IntKind.i64.wrap (P (p * 2) + px) = P (p * 2) + px := i64s _ (by have := hPb.1; omega) (by have := hPb.2.1; omega)
  have e2 : IntKind.i64.wrap (P (p * 2 + 1) + py) = P (p * 2 + 1) + py := i64s _ (by have := hPb.2.2.1; omega) (by have := hPb.2.2.2; omega)
  refine call_sub (G := tys) [⟨i, _, wcc false c n cap 1 2 tm st, ⟨false, 0, []⟩⟩, ⟨j, _, ptP true n P, ptP true n (movP P p (P (p * 2) + px) (P (p * 2 + 1) + py))⟩, ⟨k, _, mvP true n M, mvP true n (movM M p)⟩] [] [.pointer (some ⟨0, 0, some 0⟩), .int .i64 (p : Int), .agg #[.int .i64 px, .int .i64 py], .agg #[.int .i64 qx, .int .i64 qy]] tysOK mixed Try.func12 (by rfl) (Try.call12) ⟨hi, hj, hk, trivial⟩ ⟨⟨fun h => (by cases h), Nat.le_refl _, wcc_re rfl rfl⟩, ⟨fun h => ⟨rfl, Nat.le_refl _⟩, Nat.le_refl _, ptP_re⟩, ⟨fun h => ⟨rfl, Nat.le_refl _⟩, Nat.le_refl _, mvP_re⟩, trivial⟩ (by simp [Apart, hij, hik, hjk]) trivial ⟨.ptr rfl, .plain rfl, .plain rfl, .plain rfl, trivial⟩ ?_
  repeat' (refine N.go ?_; first | with_reducible refine N.obl (by decide) ?_ | with_reducible refine N.obl (flat_wi _ _ _) ?_ | with_reducible refine N.obl (flat_lim _ _) ?_ | with_reducible refine N.eq ?_ | with_reducible refine N.obl rfl ?_ | with_reducible refine N.obl ⟨by kernel_rfl, by kernel_rfl⟩ ?_ | with_reducible refine N.forkT ?_ | with_reducible refine N.forkF ?_ | with_reducible refine N.bin _ (ne_point _ _ _ _ _ _) ?_ | with_reducible refine N.bin _ (eq_cx 0 _ _ (w_ofR _ _) (w_ofI _ _)) ?_ | refine N.bin _ (sub_cx _ _ hr hs) ?_ | with_reducible refine N.call (cTOf _ _ _) ?_ | refine N.call (cShort _ _ _ _ _ _ (w_ofR _ _) (w_ofI _ _) (by omega) (by omega) hc2) ?_ | refine N.call (cShort _ _ _ _ _ _ wr ws (by omega) (by omega) hc3) ?_ | with_reducible refine N.call (cMayPoint _ _ _) ?_ | refine N.call (cHas c n cap _ _ _ P M tm st _ _ _ _ _ (by rfl) (by rfl) (by rfl)) ?_ | refine N.forkNo (by simp only [decide_eq_true_eq, decide_eq_false_iff_not, Bool.not_eq_eq_eq_not, Bool.not_true, Bool.not_false]; omega) ?_ | refine N.forkYes (by simp only [decide_eq_true_eq, decide_eq_false_iff_not, Bool.not_eq_eq_eq_not, Bool.not_true, Bool.not_false]; omega) ?_ | refine N.idx p 1 rfl hp ?_ | refine N.load _ (reads_pt hp) ?_ | refine N.forkYes (ofz_no hsp (by assumption)) ?_ | refine N.forkNo (ofz_no hsp (by assumption)) ?_ | refine N.forkYes (ofz_no hsq (by assumption)) ?_ | refine N.forkNo (ofz_no hsq (by assumption)) ?_ | refine N.forkYes (hsh) ?_ | refine N.forkNo (hsh) ?_ | refine N.forkYes (by rw [hsh]; rfl) ?_ | refine N.forkNo (by rw [hsh]; rfl) ?_ | refine N.forkYes (hsg) ?_ | refine N.forkNo (hsg) ?_ | refine N.forkYes (by rw [hsg]; rfl) ?_ | refine N.forkNo (by rw [hsg]; rfl) ?_ | refine N.forkYes (hM) ?_ | refine N.forkNo (hM) ?_ | refine N.forkYes (by rw [hM]; rfl) ?_ | refine N.forkNo (by rw [hM]; rfl) ?_ | refine N.load _ (reads_mv hp) ?_ | refine N.load _ (reads_px hp) ?_ | refine N.load _ (reads_py hp) ?_ | refine N.forkYes (by rw [e1, e2, decide_eq_true hto]; rfl) ?_ | refine N.forkNo (by rw [e1, e2, decide_eq_true hto]; rfl) ?_ | refine N.store _ (writes_pt hp) ?_ | refine N.store _ (writes_mv hp) ?_ | with_reducible refine N.fork (fun hb => ?_) (fun hb => ?_) | refine N.obl (.plain rfl) ?_ | refine N.obl ⟨post_pt (by rfl) e1 e2, post_mv (by rfl), trivial⟩ ?_ | refine N.obl trivial ?_ | exact N.true)
end Go.Proofs.Ytfpmmahonddpoaa
