/-
  The statement TwrRanges: for every input the law returns true.
-/
import Derived.Test.YtioohgocbpdkeaaRf
set_option linter.unusedVariables false
set_option linter.unusedSimpArgs false
namespace Go.Proofs.Ytioohgocbpdkeaa.twrRanges
open Go Go.ChangeShapes Go.WideShapes Go.ChangeAt Go.RowKit Sx

set_option maxRecDepth 100000 in
theorem open_timing {H : Type} {enc : TypeId × Value → H} {W : World} {r : Reach} {base : Nat} {v : Value} {d : DataW H} {p : List MemPlace}
    (hv : Value.okWide Try.prog W r base 34 v) (h : DataW.Trod enc Try.prog W 0 (fun _ => true) true 34 v d p) :
    ∃ x y z u : Int, v = .agg #[.int .i64 x, .int .i64 y, .int .i64 z, .int .i64 u] := by
  obtain ⟨cs, rfl, hs⟩ := okWide_struct Try.underlying34 hv
  have hs2 : cs.size = 4 := hs.trans (by kernel_rfl)
  obtain ⟨l⟩ := cs
  match l, hs2 with
  | [c0, c1, c2, c3], _ =>
    obtain ⟨fuel, hf⟩ := h
    have hf' : DataW.trod enc Try.prog W 0 (fun _ => true) true fuel 34 [c0, c1, c2, c3] = some (d, p) := hf
    have i64 := @Try.underlying2
    obtain ⟨k0, w0⟩ := leaf_int (d := 3) (l := 2) (j := 0) (u := c0) (by kernel_rfl) i64 rfl hf'
    obtain ⟨k1, w1⟩ := leaf_int (d := 3) (l := 2) (j := 1) (u := c1) (by kernel_rfl) i64 rfl hf'
    obtain ⟨k2, w2⟩ := leaf_int (d := 3) (l := 2) (j := 2) (u := c2) (by kernel_rfl) i64 rfl hf'
    obtain ⟨k3, w3⟩ := leaf_int (d := 3) (l := 2) (j := 3) (u := c3) (by kernel_rfl) i64 rfl hf'
    exact ⟨_, _, _, _, by rw [k0, k1, k2, k3]⟩
theorem cSp1 (a b : Int) (h : List (Option Chunk)) (ho : spanOK a b) : CallOK Try.prog 18 [.int .i64 a, .int .i64 b] h (.tuple #[.int .i64 (spLo a b), .int .i64 (spHi a b), .int .i64 0]) [] [] := by
  have := cSpan9 a b h
  unfold spanV at this
  rwa [if_pos ho, if_pos ho, if_pos ho] at this
theorem cSp0 (a b : Int) (h : List (Option Chunk)) (ho : ¬ spanOK a b) : CallOK Try.prog 18 [.int .i64 a, .int .i64 b] h (.tuple #[.int .i64 0, .int .i64 0, .int .i64 1]) [] [] := by
  have := cSpan9 a b h
  unfold spanV at this
  rwa [if_neg ho, if_neg ho, if_neg ho] at this
set_option maxRecDepth 100000 in
theorem half9_x (n : Int)  (w : World) : Calls Try.prog 48 #[.int .i64 n] w fun e w' => e = .returned (.int .i64 (n / 2)) ∧ Below w.heap.size w w' := by
  refine calls_pure (G := tys) w tysOK mixed Try.func48 (by rfl) (by first | rfl | (simp only [List.all_cons, List.all_nil, plain_wz, plain_lim, plain_wi]; rfl)) (by first | exact plain3_wz _ | exact plain3_wi _ _ _ | rfl | (simp only [plain3, List.all_cons, List.all_nil, plain_wz, plain_lim, plain_wi]; rfl)) ?_
  repeat' (refine N.go ?_; first | with_reducible refine N.obl (by decide) ?_ | with_reducible refine N.obl (flat_wi _ _ _) ?_ | with_reducible refine N.obl (flat_lim _ _) ?_ | with_reducible refine N.eq ?_ | with_reducible refine N.obl rfl ?_ | with_reducible refine N.obl ⟨by kernel_rfl, by kernel_rfl⟩ ?_ | with_reducible refine N.forkT ?_ | with_reducible refine N.forkF ?_ | fail_if_success skip)
  all_goals (congr 1; rw [show sh 1 IntKind.i64 = 1 from by decide, Int.fdiv_eq_ediv_of_nonneg _ (by decide)]; rfl)
theorem cHalf9 (n : Int) (h : List (Option Chunk)) : CallOK Try.prog 48 [.int .i64 n] h (.int .i64 (n / 2)) [] [] := call_pure rfl rfl (Try.call48 _) (half9_x n)
set_option maxRecDepth 100000 in
set_option maxHeartbeats 2000000 in
theorem range9_x (ra db da rb dr sl : Int) (w : World) : Calls Try.prog 21 #[.agg #[.int .i64 ra, .int .i64 db, .int .i64 da, .int .i64 rb], .int .i64 dr, .int .i64 sl] w fun e w' => e = .returned (rgV ra db da rb dr sl) ∧ Below w.heap.size w w' := by
  by_cases h0 : spanOK ra dr
  · by_cases h1 : spanOK db dr
    · by_cases h2 : spanOK da dr
      · by_cases h3 : spanOK rb dr
        · by_cases h4 : 0 ≤ sl ∧ sl ≤ 4194304
          · have ho : rgOK ra db da rb dr sl := ⟨h4, h0, h1, h3, h2⟩
            have s1 := spLo_in ra dr h0.1 h0.2
            have s2 := spHi_in ra dr h0.1 h0.2
            have s3 := spLo_in db dr h1.1 h1.2
            have s4 := spHi_in db dr h1.1 h1.2
            have s5 := spLo_in rb dr h3.1 h3.2
            have s6 := spHi_in rb dr h3.1 h3.2
            have s7 := spLo_in da dr h2.1 h2.2
            have s8 := spHi_in da dr h2.1 h2.2
            have w1 := wsmall (spHi ra dr - spLo db dr) (by omega) (by omega)
            have w2 := wsmall (spHi rb dr - spLo da dr) (by omega) (by omega)
            have w3 := wsmall (spLo ra dr - spHi db dr) (by omega) (by omega)
            have w4 := wsmall (spLo rb dr - spHi da dr) (by omega) (by omega)
            have eLo : max 0 (IntKind.i64.wrap (max (IntKind.i64.wrap (spLo ra dr - spHi db dr)) (IntKind.i64.wrap (spLo rb dr - spHi da dr)) / 2 - sl)) = rgLo ra db da rb dr sl := by rw [w3, w4, wsmall _ (by omega) (by omega)]; rfl
            have eHi : IntKind.i64.wrap (IntKind.i64.wrap (IntKind.i64.wrap (min (IntKind.i64.wrap (spHi ra dr - spLo db dr)) (IntKind.i64.wrap (spHi rb dr - spLo da dr)) + 1) / 2 + 1) + sl) = rgHi ra db da rb dr sl := by
              rw [w1, w2, wsmall (min _ _ + 1) (by omega) (by omega), wsmall (_ / 2 + 1) (by omega) (by omega), wsmall _ (by omega) (by omega)]
              unfold rgHi
              omega
            by_cases k1 : rgHi ra db da rb dr sl < rgLo ra db da rb dr sl
            · have e : rgE ra db da rb dr sl = 3 := by unfold rgE; rw [if_pos ho, if_pos k1]
              refine calls_pure (G := tys) w tysOK mixed Try.func21 (by rfl) (by rfl) (by rfl) ?_
              repeat' (refine N.go ?_; first | with_reducible refine N.obl (by decide) ?_ | with_reducible refine N.obl (flat_wi _ _ _) ?_ | with_reducible refine N.obl (flat_lim _ _) ?_ | with_reducible refine N.eq ?_ | with_reducible refine N.obl rfl ?_ | with_reducible refine N.obl ⟨by kernel_rfl, by kernel_rfl⟩ ?_ | with_reducible refine N.forkT ?_ | with_reducible refine N.forkF ?_ | with_reducible refine N.call (cSp1 _ _ _ (by assumption)) ?_ | with_reducible refine N.call (cSp0 _ _ _ (by assumption)) ?_ | with_reducible refine N.min2 ?_ | with_reducible refine N.max2 ?_ | with_reducible refine N.call (cHalf9 _ _) ?_ | refine N.forkYes (by rw [eHi, decide_eq_true_eq]; (try rw [eLo]); assumption) ?_ | refine N.forkNo (by rw [eHi, decide_eq_false_iff_not]; (try rw [eLo]); assumption) ?_ | refine N.forkNo (by decide) ?_ | refine N.forkYes (by decide) ?_ | refine N.forkYes (by rw [decide_eq_true_eq]; omega) ?_ | refine N.forkNo (by rw [decide_eq_false_iff_not]; omega) ?_ | fail_if_success skip)
              all_goals (unfold rgV; rw [e]; rfl)
            · by_cases k2 : rgHi ra db da rb dr sl > 4194304
              · have e : rgE ra db da rb dr sl = 2 := by unfold rgE; rw [if_pos ho, if_neg k1, if_pos k2]
                refine calls_pure (G := tys) w tysOK mixed Try.func21 (by rfl) (by rfl) (by rfl) ?_
                repeat' (refine N.go ?_; first | with_reducible refine N.obl (by decide) ?_ | with_reducible refine N.obl (flat_wi _ _ _) ?_ | with_reducible refine N.obl (flat_lim _ _) ?_ | with_reducible refine N.eq ?_ | with_reducible refine N.obl rfl ?_ | with_reducible refine N.obl ⟨by kernel_rfl, by kernel_rfl⟩ ?_ | with_reducible refine N.forkT ?_ | with_reducible refine N.forkF ?_ | with_reducible refine N.call (cSp1 _ _ _ (by assumption)) ?_ | with_reducible refine N.call (cSp0 _ _ _ (by assumption)) ?_ | with_reducible refine N.min2 ?_ | with_reducible refine N.max2 ?_ | with_reducible refine N.call (cHalf9 _ _) ?_ | refine N.forkYes (by rw [eHi, decide_eq_true_eq]; (try rw [eLo]); assumption) ?_ | refine N.forkNo (by rw [eHi, decide_eq_false_iff_not]; (try rw [eLo]); assumption) ?_ | refine N.forkNo (by decide) ?_ | refine N.forkYes (by decide) ?_ | refine N.forkYes (by rw [decide_eq_true_eq]; omega) ?_ | refine N.forkNo (by rw [decide_eq_false_iff_not]; omega) ?_ | fail_if_success skip)
                all_goals (unfold rgV; rw [e]; rfl)
              · have e : rgE ra db da rb dr sl = 0 := by unfold rgE; rw [if_pos ho, if_neg k1, if_neg k2]
                refine calls_pure (G := tys) w tysOK mixed Try.func21 (by rfl) (by rfl) (by rfl) ?_
                repeat' (refine N.go ?_; first | with_reducible refine N.obl (by decide) ?_ | with_reducible refine N.obl (flat_wi _ _ _) ?_ | with_reducible refine N.obl (flat_lim _ _) ?_ | with_reducible refine N.eq ?_ | with_reducible refine N.obl rfl ?_ | with_reducible refine N.obl ⟨by kernel_rfl, by kernel_rfl⟩ ?_ | with_reducible refine N.forkT ?_ | with_reducible refine N.forkF ?_ | with_reducible refine N.call (cSp1 _ _ _ (by assumption)) ?_ | with_reducible refine N.call (cSp0 _ _ _ (by assumption)) ?_ | with_reducible refine N.min2 ?_ | with_reducible refine N.max2 ?_ | with_reducible refine N.call (cHalf9 _ _) ?_ | refine N.forkYes (by rw [eHi, decide_eq_true_eq]; (try rw [eLo]); assumption) ?_ | refine N.forkNo (by rw [eHi, decide_eq_false_iff_not]; (try rw [eLo]); assumption) ?_ | refine N.forkNo (by decide) ?_ | refine N.forkYes (by decide) ?_ | refine N.forkYes (by rw [decide_eq_true_eq]; omega) ?_ | refine N.forkNo (by rw [decide_eq_false_iff_not]; omega) ?_ | fail_if_success skip)
                all_goals (rw [eLo, eHi]; unfold rgV; rw [e]; rfl)
          · by_cases h5 : sl < 0
            · refine calls_pure (G := tys) w tysOK mixed Try.func21 (by rfl) (by rfl) (by rfl) ?_
              repeat' (refine N.go ?_; first | with_reducible refine N.obl (by decide) ?_ | with_reducible refine N.obl (flat_wi _ _ _) ?_ | with_reducible refine N.obl (flat_lim _ _) ?_ | with_reducible refine N.eq ?_ | with_reducible refine N.obl rfl ?_ | with_reducible refine N.obl ⟨by kernel_rfl, by kernel_rfl⟩ ?_ | with_reducible refine N.forkT ?_ | with_reducible refine N.forkF ?_ | with_reducible refine N.call (cSp1 _ _ _ (by assumption)) ?_ | with_reducible refine N.call (cSp0 _ _ _ (by assumption)) ?_ | with_reducible refine N.min2 ?_ | with_reducible refine N.max2 ?_ | refine N.forkNo (by decide) ?_ | refine N.forkYes (by decide) ?_ | refine N.forkYes (by rw [decide_eq_true_eq]; omega) ?_ | refine N.forkNo (by rw [decide_eq_false_iff_not]; omega) ?_ | with_reducible refine N.call (cHalf9 _ _) ?_ | fail_if_success skip)
              all_goals exact rgV_bad (fun h => h4 h.1)
            · refine calls_pure (G := tys) w tysOK mixed Try.func21 (by rfl) (by rfl) (by rfl) ?_
              repeat' (refine N.go ?_; first | with_reducible refine N.obl (by decide) ?_ | with_reducible refine N.obl (flat_wi _ _ _) ?_ | with_reducible refine N.obl (flat_lim _ _) ?_ | with_reducible refine N.eq ?_ | with_reducible refine N.obl rfl ?_ | with_reducible refine N.obl ⟨by kernel_rfl, by kernel_rfl⟩ ?_ | with_reducible refine N.forkT ?_ | with_reducible refine N.forkF ?_ | with_reducible refine N.call (cSp1 _ _ _ (by assumption)) ?_ | with_reducible refine N.call (cSp0 _ _ _ (by assumption)) ?_ | with_reducible refine N.min2 ?_ | with_reducible refine N.max2 ?_ | refine N.forkNo (by decide) ?_ | refine N.forkYes (by decide) ?_ | refine N.forkYes (by rw [decide_eq_true_eq]; omega) ?_ | refine N.forkNo (by rw [decide_eq_false_iff_not]; omega) ?_ | with_reducible refine N.call (cHalf9 _ _) ?_ | fail_if_success skip)
              all_goals exact rgV_bad (fun h => h4 h.1)
        · refine calls_pure (G := tys) w tysOK mixed Try.func21 (by rfl) (by rfl) (by rfl) ?_
          repeat' (refine N.go ?_; first | with_reducible refine N.obl (by decide) ?_ | with_reducible refine N.obl (flat_wi _ _ _) ?_ | with_reducible refine N.obl (flat_lim _ _) ?_ | with_reducible refine N.eq ?_ | with_reducible refine N.obl rfl ?_ | with_reducible refine N.obl ⟨by kernel_rfl, by kernel_rfl⟩ ?_ | with_reducible refine N.forkT ?_ | with_reducible refine N.forkF ?_ | with_reducible refine N.call (cSp1 _ _ _ (by assumption)) ?_ | with_reducible refine N.call (cSp0 _ _ _ (by assumption)) ?_ | with_reducible refine N.min2 ?_ | with_reducible refine N.max2 ?_ | refine N.forkNo (by decide) ?_ | refine N.forkYes (by decide) ?_ | refine N.forkYes (by rw [decide_eq_true_eq]; omega) ?_ | refine N.forkNo (by rw [decide_eq_false_iff_not]; omega) ?_ | with_reducible refine N.call (cHalf9 _ _) ?_ | fail_if_success skip)
          all_goals exact rgV_bad (fun h => h3 h.2.2.2.1)
      · by_cases h3 : spanOK rb dr
        · refine calls_pure (G := tys) w tysOK mixed Try.func21 (by rfl) (by rfl) (by rfl) ?_
          repeat' (refine N.go ?_; first | with_reducible refine N.obl (by decide) ?_ | with_reducible refine N.obl (flat_wi _ _ _) ?_ | with_reducible refine N.obl (flat_lim _ _) ?_ | with_reducible refine N.eq ?_ | with_reducible refine N.obl rfl ?_ | with_reducible refine N.obl ⟨by kernel_rfl, by kernel_rfl⟩ ?_ | with_reducible refine N.forkT ?_ | with_reducible refine N.forkF ?_ | with_reducible refine N.call (cSp1 _ _ _ (by assumption)) ?_ | with_reducible refine N.call (cSp0 _ _ _ (by assumption)) ?_ | with_reducible refine N.min2 ?_ | with_reducible refine N.max2 ?_ | refine N.forkNo (by decide) ?_ | refine N.forkYes (by decide) ?_ | refine N.forkYes (by rw [decide_eq_true_eq]; omega) ?_ | refine N.forkNo (by rw [decide_eq_false_iff_not]; omega) ?_ | with_reducible refine N.call (cHalf9 _ _) ?_ | fail_if_success skip)
          all_goals exact rgV_bad (fun h => h2 h.2.2.2.2)
        · refine calls_pure (G := tys) w tysOK mixed Try.func21 (by rfl) (by rfl) (by rfl) ?_
          repeat' (refine N.go ?_; first | with_reducible refine N.obl (by decide) ?_ | with_reducible refine N.obl (flat_wi _ _ _) ?_ | with_reducible refine N.obl (flat_lim _ _) ?_ | with_reducible refine N.eq ?_ | with_reducible refine N.obl rfl ?_ | with_reducible refine N.obl ⟨by kernel_rfl, by kernel_rfl⟩ ?_ | with_reducible refine N.forkT ?_ | with_reducible refine N.forkF ?_ | with_reducible refine N.call (cSp1 _ _ _ (by assumption)) ?_ | with_reducible refine N.call (cSp0 _ _ _ (by assumption)) ?_ | with_reducible refine N.min2 ?_ | with_reducible refine N.max2 ?_ | refine N.forkNo (by decide) ?_ | refine N.forkYes (by decide) ?_ | refine N.forkYes (by rw [decide_eq_true_eq]; omega) ?_ | refine N.forkNo (by rw [decide_eq_false_iff_not]; omega) ?_ | with_reducible refine N.call (cHalf9 _ _) ?_ | fail_if_success skip)
          all_goals exact rgV_bad (fun h => h2 h.2.2.2.2)
    · by_cases h2 : spanOK da dr
      · by_cases h3 : spanOK rb dr
        · refine calls_pure (G := tys) w tysOK mixed Try.func21 (by rfl) (by rfl) (by rfl) ?_
          repeat' (refine N.go ?_; first | with_reducible refine N.obl (by decide) ?_ | with_reducible refine N.obl (flat_wi _ _ _) ?_ | with_reducible refine N.obl (flat_lim _ _) ?_ | with_reducible refine N.eq ?_ | with_reducible refine N.obl rfl ?_ | with_reducible refine N.obl ⟨by kernel_rfl, by kernel_rfl⟩ ?_ | with_reducible refine N.forkT ?_ | with_reducible refine N.forkF ?_ | with_reducible refine N.call (cSp1 _ _ _ (by assumption)) ?_ | with_reducible refine N.call (cSp0 _ _ _ (by assumption)) ?_ | with_reducible refine N.min2 ?_ | with_reducible refine N.max2 ?_ | refine N.forkNo (by decide) ?_ | refine N.forkYes (by decide) ?_ | refine N.forkYes (by rw [decide_eq_true_eq]; omega) ?_ | refine N.forkNo (by rw [decide_eq_false_iff_not]; omega) ?_ | with_reducible refine N.call (cHalf9 _ _) ?_ | fail_if_success skip)
          all_goals exact rgV_bad (fun h => h1 h.2.2.1)
        · refine calls_pure (G := tys) w tysOK mixed Try.func21 (by rfl) (by rfl) (by rfl) ?_
          repeat' (refine N.go ?_; first | with_reducible refine N.obl (by decide) ?_ | with_reducible refine N.obl (flat_wi _ _ _) ?_ | with_reducible refine N.obl (flat_lim _ _) ?_ | with_reducible refine N.eq ?_ | with_reducible refine N.obl rfl ?_ | with_reducible refine N.obl ⟨by kernel_rfl, by kernel_rfl⟩ ?_ | with_reducible refine N.forkT ?_ | with_reducible refine N.forkF ?_ | with_reducible refine N.call (cSp1 _ _ _ (by assumption)) ?_ | with_reducible refine N.call (cSp0 _ _ _ (by assumption)) ?_ | with_reducible refine N.min2 ?_ | with_reducible refine N.max2 ?_ | refine N.forkNo (by decide) ?_ | refine N.forkYes (by decide) ?_ | refine N.forkYes (by rw [decide_eq_true_eq]; omega) ?_ | refine N.forkNo (by rw [decide_eq_false_iff_not]; omega) ?_ | with_reducible refine N.call (cHalf9 _ _) ?_ | fail_if_success skip)
          all_goals exact rgV_bad (fun h => h1 h.2.2.1)
      · by_cases h3 : spanOK rb dr
        · refine calls_pure (G := tys) w tysOK mixed Try.func21 (by rfl) (by rfl) (by rfl) ?_
          repeat' (refine N.go ?_; first | with_reducible refine N.obl (by decide) ?_ | with_reducible refine N.obl (flat_wi _ _ _) ?_ | with_reducible refine N.obl (flat_lim _ _) ?_ | with_reducible refine N.eq ?_ | with_reducible refine N.obl rfl ?_ | with_reducible refine N.obl ⟨by kernel_rfl, by kernel_rfl⟩ ?_ | with_reducible refine N.forkT ?_ | with_reducible refine N.forkF ?_ | with_reducible refine N.call (cSp1 _ _ _ (by assumption)) ?_ | with_reducible refine N.call (cSp0 _ _ _ (by assumption)) ?_ | with_reducible refine N.min2 ?_ | with_reducible refine N.max2 ?_ | refine N.forkNo (by decide) ?_ | refine N.forkYes (by decide) ?_ | refine N.forkYes (by rw [decide_eq_true_eq]; omega) ?_ | refine N.forkNo (by rw [decide_eq_false_iff_not]; omega) ?_ | with_reducible refine N.call (cHalf9 _ _) ?_ | fail_if_success skip)
          all_goals exact rgV_bad (fun h => h1 h.2.2.1)
        · refine calls_pure (G := tys) w tysOK mixed Try.func21 (by rfl) (by rfl) (by rfl) ?_
          repeat' (refine N.go ?_; first | with_reducible refine N.obl (by decide) ?_ | with_reducible refine N.obl (flat_wi _ _ _) ?_ | with_reducible refine N.obl (flat_lim _ _) ?_ | with_reducible refine N.eq ?_ | with_reducible refine N.obl rfl ?_ | with_reducible refine N.obl ⟨by kernel_rfl, by kernel_rfl⟩ ?_ | with_reducible refine N.forkT ?_ | with_reducible refine N.forkF ?_ | with_reducible refine N.call (cSp1 _ _ _ (by assumption)) ?_ | with_reducible refine N.call (cSp0 _ _ _ (by assumption)) ?_ | with_reducible refine N.min2 ?_ | with_reducible refine N.max2 ?_ | refine N.forkNo (by decide) ?_ | refine N.forkYes (by decide) ?_ | refine N.forkYes (by rw [decide_eq_true_eq]; omega) ?_ | refine N.forkNo (by rw [decide_eq_false_iff_not]; omega) ?_ | with_reducible refine N.call (cHalf9 _ _) ?_ | fail_if_success skip)
          all_goals exact rgV_bad (fun h => h1 h.2.2.1)
  · by_cases h1 : spanOK db dr
    · by_cases h2 : spanOK da dr
      · by_cases h3 : spanOK rb dr
        · refine calls_pure (G := tys) w tysOK mixed Try.func21 (by rfl) (by rfl) (by rfl) ?_
          repeat' (refine N.go ?_; first | with_reducible refine N.obl (by decide) ?_ | with_reducible refine N.obl (flat_wi _ _ _) ?_ | with_reducible refine N.obl (flat_lim _ _) ?_ | with_reducible refine N.eq ?_ | with_reducible refine N.obl rfl ?_ | with_reducible refine N.obl ⟨by kernel_rfl, by kernel_rfl⟩ ?_ | with_reducible refine N.forkT ?_ | with_reducible refine N.forkF ?_ | with_reducible refine N.call (cSp1 _ _ _ (by assumption)) ?_ | with_reducible refine N.call (cSp0 _ _ _ (by assumption)) ?_ | with_reducible refine N.min2 ?_ | with_reducible refine N.max2 ?_ | refine N.forkNo (by decide) ?_ | refine N.forkYes (by decide) ?_ | refine N.forkYes (by rw [decide_eq_true_eq]; omega) ?_ | refine N.forkNo (by rw [decide_eq_false_iff_not]; omega) ?_ | with_reducible refine N.call (cHalf9 _ _) ?_ | fail_if_success skip)
          all_goals exact rgV_bad (fun h => h0 h.2.1)
        · refine calls_pure (G := tys) w tysOK mixed Try.func21 (by rfl) (by rfl) (by rfl) ?_
          repeat' (refine N.go ?_; first | with_reducible refine N.obl (by decide) ?_ | with_reducible refine N.obl (flat_wi _ _ _) ?_ | with_reducible refine N.obl (flat_lim _ _) ?_ | with_reducible refine N.eq ?_ | with_reducible refine N.obl rfl ?_ | with_reducible refine N.obl ⟨by kernel_rfl, by kernel_rfl⟩ ?_ | with_reducible refine N.forkT ?_ | with_reducible refine N.forkF ?_ | with_reducible refine N.call (cSp1 _ _ _ (by assumption)) ?_ | with_reducible refine N.call (cSp0 _ _ _ (by assumption)) ?_ | with_reducible refine N.min2 ?_ | with_reducible refine N.max2 ?_ | refine N.forkNo (by decide) ?_ | refine N.forkYes (by decide) ?_ | refine N.forkYes (by rw [decide_eq_true_eq]; omega) ?_ | refine N.forkNo (by rw [decide_eq_false_iff_not]; omega) ?_ | with_reducible refine N.call (cHalf9 _ _) ?_ | fail_if_success skip)
          all_goals exact rgV_bad (fun h => h0 h.2.1)
      · by_cases h3 : spanOK rb dr
        · refine calls_pure (G := tys) w tysOK mixed Try.func21 (by rfl) (by rfl) (by rfl) ?_
          repeat' (refine N.go ?_; first | with_reducible refine N.obl (by decide) ?_ | with_reducible refine N.obl (flat_wi _ _ _) ?_ | with_reducible refine N.obl (flat_lim _ _) ?_ | with_reducible refine N.eq ?_ | with_reducible refine N.obl rfl ?_ | with_reducible refine N.obl ⟨by kernel_rfl, by kernel_rfl⟩ ?_ | with_reducible refine N.forkT ?_ | with_reducible refine N.forkF ?_ | with_reducible refine N.call (cSp1 _ _ _ (by assumption)) ?_ | with_reducible refine N.call (cSp0 _ _ _ (by assumption)) ?_ | with_reducible refine N.min2 ?_ | with_reducible refine N.max2 ?_ | refine N.forkNo (by decide) ?_ | refine N.forkYes (by decide) ?_ | refine N.forkYes (by rw [decide_eq_true_eq]; omega) ?_ | refine N.forkNo (by rw [decide_eq_false_iff_not]; omega) ?_ | with_reducible refine N.call (cHalf9 _ _) ?_ | fail_if_success skip)
          all_goals exact rgV_bad (fun h => h0 h.2.1)
        · refine calls_pure (G := tys) w tysOK mixed Try.func21 (by rfl) (by rfl) (by rfl) ?_
          repeat' (refine N.go ?_; first | with_reducible refine N.obl (by decide) ?_ | with_reducible refine N.obl (flat_wi _ _ _) ?_ | with_reducible refine N.obl (flat_lim _ _) ?_ | with_reducible refine N.eq ?_ | with_reducible refine N.obl rfl ?_ | with_reducible refine N.obl ⟨by kernel_rfl, by kernel_rfl⟩ ?_ | with_reducible refine N.forkT ?_ | with_reducible refine N.forkF ?_ | with_reducible refine N.call (cSp1 _ _ _ (by assumption)) ?_ | with_reducible refine N.call (cSp0 _ _ _ (by assumption)) ?_ | with_reducible refine N.min2 ?_ | with_reducible refine N.max2 ?_ | refine N.forkNo (by decide) ?_ | refine N.forkYes (by decide) ?_ | refine N.forkYes (by rw [decide_eq_true_eq]; omega) ?_ | refine N.forkNo (by rw [decide_eq_false_iff_not]; omega) ?_ | with_reducible refine N.call (cHalf9 _ _) ?_ | fail_if_success skip)
          all_goals exact rgV_bad (fun h => h0 h.2.1)
    · by_cases h2 : spanOK da dr
      · by_cases h3 : spanOK rb dr
        · refine calls_pure (G := tys) w tysOK mixed Try.func21 (by rfl) (by rfl) (by rfl) ?_
          repeat' (refine N.go ?_; first | with_reducible refine N.obl (by decide) ?_ | with_reducible refine N.obl (flat_wi _ _ _) ?_ | with_reducible refine N.obl (flat_lim _ _) ?_ | with_reducible refine N.eq ?_ | with_reducible refine N.obl rfl ?_ | with_reducible refine N.obl ⟨by kernel_rfl, by kernel_rfl⟩ ?_ | with_reducible refine N.forkT ?_ | with_reducible refine N.forkF ?_ | with_reducible refine N.call (cSp1 _ _ _ (by assumption)) ?_ | with_reducible refine N.call (cSp0 _ _ _ (by assumption)) ?_ | with_reducible refine N.min2 ?_ | with_reducible refine N.max2 ?_ | refine N.forkNo (by decide) ?_ | refine N.forkYes (by decide) ?_ | refine N.forkYes (by rw [decide_eq_true_eq]; omega) ?_ | refine N.forkNo (by rw [decide_eq_false_iff_not]; omega) ?_ | with_reducible refine N.call (cHalf9 _ _) ?_ | fail_if_success skip)
          all_goals exact rgV_bad (fun h => h0 h.2.1)
        · refine calls_pure (G := tys) w tysOK mixed Try.func21 (by rfl) (by rfl) (by rfl) ?_
          repeat' (refine N.go ?_; first | with_reducible refine N.obl (by decide) ?_ | with_reducible refine N.obl (flat_wi _ _ _) ?_ | with_reducible refine N.obl (flat_lim _ _) ?_ | with_reducible refine N.eq ?_ | with_reducible refine N.obl rfl ?_ | with_reducible refine N.obl ⟨by kernel_rfl, by kernel_rfl⟩ ?_ | with_reducible refine N.forkT ?_ | with_reducible refine N.forkF ?_ | with_reducible refine N.call (cSp1 _ _ _ (by assumption)) ?_ | with_reducible refine N.call (cSp0 _ _ _ (by assumption)) ?_ | with_reducible refine N.min2 ?_ | with_reducible refine N.max2 ?_ | refine N.forkNo (by decide) ?_ | refine N.forkYes (by decide) ?_ | refine N.forkYes (by rw [decide_eq_true_eq]; omega) ?_ | refine N.forkNo (by rw [decide_eq_false_iff_not]; omega) ?_ | with_reducible refine N.call (cHalf9 _ _) ?_ | fail_if_success skip)
          all_goals exact rgV_bad (fun h => h0 h.2.1)
      · by_cases h3 : spanOK rb dr
        · refine calls_pure (G := tys) w tysOK mixed Try.func21 (by rfl) (by rfl) (by rfl) ?_
          repeat' (refine N.go ?_; first | with_reducible refine N.obl (by decide) ?_ | with_reducible refine N.obl (flat_wi _ _ _) ?_ | with_reducible refine N.obl (flat_lim _ _) ?_ | with_reducible refine N.eq ?_ | with_reducible refine N.obl rfl ?_ | with_reducible refine N.obl ⟨by kernel_rfl, by kernel_rfl⟩ ?_ | with_reducible refine N.forkT ?_ | with_reducible refine N.forkF ?_ | with_reducible refine N.call (cSp1 _ _ _ (by assumption)) ?_ | with_reducible refine N.call (cSp0 _ _ _ (by assumption)) ?_ | with_reducible refine N.min2 ?_ | with_reducible refine N.max2 ?_ | refine N.forkNo (by decide) ?_ | refine N.forkYes (by decide) ?_ | refine N.forkYes (by rw [decide_eq_true_eq]; omega) ?_ | refine N.forkNo (by rw [decide_eq_false_iff_not]; omega) ?_ | with_reducible refine N.call (cHalf9 _ _) ?_ | fail_if_success skip)
          all_goals exact rgV_bad (fun h => h0 h.2.1)
        · refine calls_pure (G := tys) w tysOK mixed Try.func21 (by rfl) (by rfl) (by rfl) ?_
          repeat' (refine N.go ?_; first | with_reducible refine N.obl (by decide) ?_ | with_reducible refine N.obl (flat_wi _ _ _) ?_ | with_reducible refine N.obl (flat_lim _ _) ?_ | with_reducible refine N.eq ?_ | with_reducible refine N.obl rfl ?_ | with_reducible refine N.obl ⟨by kernel_rfl, by kernel_rfl⟩ ?_ | with_reducible refine N.forkT ?_ | with_reducible refine N.forkF ?_ | with_reducible refine N.call (cSp1 _ _ _ (by assumption)) ?_ | with_reducible refine N.call (cSp0 _ _ _ (by assumption)) ?_ | with_reducible refine N.min2 ?_ | with_reducible refine N.max2 ?_ | refine N.forkNo (by decide) ?_ | refine N.forkYes (by decide) ?_ | refine N.forkYes (by rw [decide_eq_true_eq]; omega) ?_ | refine N.forkNo (by rw [decide_eq_false_iff_not]; omega) ?_ | with_reducible refine N.call (cHalf9 _ _) ?_ | fail_if_success skip)
          all_goals exact rgV_bad (fun h => h0 h.2.1)
theorem cRangeT (ra db da rb dr sl : Int) (h : List (Option Chunk)) : CallOK Try.prog 20 [.agg #[.int .i64 ra, .int .i64 db, .int .i64 da, .int .i64 rb], .int .i64 dr, .int .i64 sl] h (.tuple #[.int .i64 (if rgE ra db da rb dr sl = 0 then rgLo ra db da rb dr sl else 0), .int .i64 (if rgE ra db da rb dr sl = 0 then rgHi ra db da rb dr sl else 0), .int .i64 (rgE ra db da rb dr sl)]) [] [] := cRange ra db da rb dr sl h
theorem cRange9T (ra db da rb dr sl : Int) (h : List (Option Chunk)) : CallOK Try.prog 21 [.agg #[.int .i64 ra, .int .i64 db, .int .i64 da, .int .i64 rb], .int .i64 dr, .int .i64 sl] h (.tuple #[.int .i64 (if rgE ra db da rb dr sl = 0 then rgLo ra db da rb dr sl else 0), .int .i64 (if rgE ra db da rb dr sl = 0 then rgHi ra db da rb dr sl else 0), .int .i64 (rgE ra db da rb dr sl)]) [] [] := call_pure (by rfl) (by rfl) (Try.call21 _) (range9_x ra db da rb dr sl)
set_option maxRecDepth 100000 in
set_option maxHeartbeats 2000000 in
theorem walk (ra db da rb dr sl : Int) (w : World) : Calls Try.prog 7 #[.agg #[.int .i64 ra, .int .i64 db, .int .i64 da, .int .i64 rb], .int .i64 dr, .int .i64 sl] w fun e w' => e = .returned (.bool true) ∧ Below w.heap.size w w' := by
  refine calls_pure (G := tys) w tysOK mixed Try.func7 (by rfl) (by rfl) (by rfl) ?_
  repeat' (refine N.go ?_; first | with_reducible refine N.obl (by decide) ?_ | with_reducible refine N.obl (flat_wi _ _ _) ?_ | with_reducible refine N.obl (flat_lim _ _) ?_ | with_reducible refine N.eq ?_ | with_reducible refine N.obl rfl ?_ | with_reducible refine N.obl ⟨by kernel_rfl, by kernel_rfl⟩ ?_ | with_reducible refine N.forkT ?_ | with_reducible refine N.forkF ?_ | with_reducible refine N.call (cRangeT _ _ _ _ _ _ _) ?_ | with_reducible refine N.call (cRange9T _ _ _ _ _ _ _) ?_ | with_reducible refine N.call (cAwake15 _) ?_ | refine N.forkYes (beq_self_eq_true _) ?_ | fail_if_success skip)
  all_goals rfl
set_option maxRecDepth 100000 in
theorem lifted (os : Os) (started : os.Started) (H : Type) (enc : TypeId × Value → H) :
    ReturnsInHanded {} Try.checked os 7 .any (Rows.twrRangesSpec.pre6 enc Try.prog Try.f7 Rows.twrRangesRow.domain false) (Rows.twrRangesSpec.post enc Try.prog Try.f7 false true false false) := by
  refine law_lifted (C := Try.checked) (tb := 4) Try.own started (by kernel_rfl) Try.func7 Try.laidOut (by kernel_rfl) rfl Try.underlying4 rfl
    (fun ds hds => by match ds, hds with | [_, _, _], _ => rfl)
    (ChangeSpec.witness6 (enc := enc) (C := Try.checked) false ⟨#[], #[.agg #[.int .i64 0, .int .i64 0, .int .i64 0, .int .i64 0], .int .i64 0, .int .i64 0], []⟩ 8 (by kernel_rfl) (by kernel_rfl) (by kernel_rfl) (by kernel_rfl)) ?_
  intro W base args ds p hval0 hA0 hsz0
  have hval : ∀ (j : Nat) t v, Try.f7.params[j]? = some t → args[j]? = some v → Value.okWide Try.prog W .any base t v := hval0
  have hA : DataW.TrodAll enc Try.prog W 0 (fun _ => true) true Try.f7.params.toList args.toList ds p := hA0
  have hsz : (DataW.weightsEach Try.prog Try.f7.params.toList ds).all (· ≤ reachBytes) = true := hsz0
  rw [Try.params7] at hA hval hsz
  obtain ⟨v0, vs0, d0, ds0, p0, q0, hargs, rfl, rfl, h0, r0⟩ := trodAll_cons hA
  obtain ⟨v1, vs1, d1, ds1, p1, q1, rfl, rfl, rfl, h1, r1⟩ := trodAll_cons r0
  obtain ⟨v2, vs2, d2, ds2, p2, q2, rfl, rfl, rfl, h2, r2⟩ := trodAll_cons r1
  obtain ⟨rfl, rfl, rfl⟩ := trodAll_nil r2
  obtain rfl : args = #[v0, v1, v2] := by cases args; simp_all
  obtain ⟨x0, y0, z0, u0, rfl⟩ := open_timing (hval 0 _ v0 rfl rfl) h0
  obtain ⟨a1, rfl, rfl, rfl, w1⟩ := open_int Try.underlying2 (hval 1 _ v1 rfl rfl) h1
  obtain ⟨a2, rfl, rfl, rfl, w2⟩ := open_int Try.underlying2 (hval 2 _ v2 rfl rfl) h2
  exact walk x0 y0 z0 u0 a1 a2 W

theorem proved : Rows.TwrRangesSaid :=
  OpenClaim.holds_of_wide 7 Try.f7 rfl rfl rfl rfl rfl rfl rfl ⟨rfl, rfl, rfl, rfl, rfl⟩ rfl rfl rfl rfl rfl (by kernel_rfl) Try.func7 (by kernel_rfl)
    (of_decide_eq_true (by kernel_rfl)) (by unfold Func.isWrapper; rw [if_neg (by decide +kernel)]; exact ⟨rfl, rfl⟩)
    (fun os started H enc _ => lifted os started H enc)
#print axioms proved
end Go.Proofs.Ytioohgocbpdkeaa.twrRanges
