/-
  The walks of twr: span.less, Range, awake.
-/
import Derived.Test.YtioohgocbpdkeaaClkAwake
set_option linter.unusedVariables false
set_option linter.unusedSimpArgs false
namespace Go.Proofs.Ytioohgocbpdkeaa
open Go Go.RowKit Sx

set_option maxRecDepth 100000 in
theorem less_x (p q r s : Int)  (w : World) : Calls Try.prog 47 #[.agg #[.int .i64 p, .int .i64 q], .agg #[.int .i64 r, .int .i64 s]] w fun e w' => e = .returned (.agg #[.int .i64 (IntKind.i64.wrap (p - s)), .int .i64 (IntKind.i64.wrap (q - r))]) ∧ Below w.heap.size w w' := by
  refine calls_pure (G := tys) w tysOK mixed Try.func47 (by rfl) (by first | rfl | (simp only [List.all_cons, List.all_nil, plain_wz, plain_lim, plain_wi]; rfl)) (by first | exact plain3_wz _ | exact plain3_wi _ _ _ | rfl | (simp only [plain3, List.all_cons, List.all_nil, plain_wz, plain_lim, plain_wi]; rfl)) ?_
  repeat' (refine N.go ?_; first | with_reducible refine N.obl (by decide) ?_ | with_reducible refine N.obl (flat_wi _ _ _) ?_ | with_reducible refine N.obl (flat_lim _ _) ?_ | with_reducible refine N.eq ?_ | with_reducible refine N.obl rfl ?_ | with_reducible refine N.obl ⟨by kernel_rfl, by kernel_rfl⟩ ?_ | with_reducible refine N.forkT ?_ | with_reducible refine N.forkF ?_)
  all_goals rfl
theorem cLess (p q r s : Int) (h : List (Option Chunk)) : CallOK Try.prog 47 [.agg #[.int .i64 p, .int .i64 q], .agg #[.int .i64 r, .int .i64 s]] h (.agg #[.int .i64 (IntKind.i64.wrap (p - s)), .int .i64 (IntKind.i64.wrap (q - r))]) [] [] :=
  call_pure rfl rfl (Try.call47 _) (less_x p q r s)
theorem cHalf (n : Int) (h : List (Option Chunk)) (h1 : -4611686018427387904 ≤ n) (h2 : n ≤ 4611686018427387904) : CallOK Try.prog 41 [.int .i64 n, .int .i64 1, .int .i64 2] h (.tuple #[.int .i64 (n / 2), .int .i64 0]) [] [] :=
  mdv _ _ _ _ (by omega) (by omega) (by omega) (by omega) (by omega) (by omega) _ (by rw [Int.mul_one]) (by omega) (by omega)
theorem cHalfUp (n : Int) (h : List (Option Chunk)) (h1 : -4611686018427387904 ≤ n) (h2 : n ≤ 4611686018427387904) : CallOK Try.prog 42 [.int .i64 n, .int .i64 1, .int .i64 2] h (.tuple #[.int .i64 (-(-n / 2)), .int .i64 0]) [] [] :=
  mduv _ _ _ _ (by omega) (by omega) (by omega) (by omega) (by omega) (by omega) _ (by rw [Int.mul_one]) (by omega) (by omega)
theorem cSpan0 (a b : Int) (h : List (Option Chunk)) (ho : ¬ spanOK a b) : CallOK Try.prog 15 [.int .i64 a, .int .i64 b] h (.tuple #[.int .i64 0, .int .i64 0, .int .i64 1]) [] [] := by
  have := cSpan a b h
  unfold spanV at this
  rwa [if_neg ho, if_neg ho, if_neg ho] at this
def rgOK (ra db da rb dr sl : Int) : Prop := (0 ≤ sl ∧ sl ≤ 4194304) ∧ spanOK ra dr ∧ spanOK db dr ∧ spanOK rb dr ∧ spanOK da dr
instance (ra db da rb dr sl : Int) : Decidable (rgOK ra db da rb dr sl) := by unfold rgOK; infer_instance
def rgLo (ra db da rb dr sl : Int) : Int := max 0 (max (spLo ra dr - spHi db dr) (spLo rb dr - spHi da dr) / 2 - sl)
def rgHi (ra db da rb dr sl : Int) : Int := -(-min (spHi ra dr - spLo db dr) (spHi rb dr - spLo da dr) / 2) + 1 + sl
def rgE (ra db da rb dr sl : Int) : Int := if rgOK ra db da rb dr sl then (if rgHi ra db da rb dr sl < rgLo ra db da rb dr sl then 3 else if rgHi ra db da rb dr sl > 4194304 then 2 else 0) else 1
def rgV (ra db da rb dr sl : Int) : Value := .tuple #[.int .i64 (if rgE ra db da rb dr sl = 0 then rgLo ra db da rb dr sl else 0), .int .i64 (if rgE ra db da rb dr sl = 0 then rgHi ra db da rb dr sl else 0), .int .i64 (rgE ra db da rb dr sl)]
theorem rgV_bad {ra db da rb dr sl : Int} (h : ¬ rgOK ra db da rb dr sl) : Value.tuple ⟨[.int .i64 0, .int .i64 0, .int .i64 1]⟩ = rgV ra db da rb dr sl := by
  have : rgE ra db da rb dr sl = 1 := by unfold rgE; rw [if_neg h]
  unfold rgV; rw [this]; rfl
set_option maxRecDepth 100000 in
set_option maxHeartbeats 1000000 in
theorem range_x (ra db da rb dr sl : Int)  (w : World) : Calls Try.prog 20 #[.agg #[.int .i64 ra, .int .i64 db, .int .i64 da, .int .i64 rb], .int .i64 dr, .int .i64 sl] w fun e w' => e = .returned (rgV ra db da rb dr sl) ∧ Below w.heap.size w w' := by
  refine calls_pure (G := tys) w tysOK mixed Try.func20 (by rfl) (by first | rfl | (simp only [List.all_cons, List.all_nil, plain_wz, plain_lim, plain_wi]; rfl)) (by first | exact plain3_wz _ | exact plain3_wi _ _ _ | rfl | (simp only [plain3, List.all_cons, List.all_nil, plain_wz, plain_lim, plain_wi]; rfl)) ?_
  repeat' (refine N.go ?_; first | with_reducible refine N.obl (by decide) ?_ | with_reducible refine N.obl (flat_wi _ _ _) ?_ | with_reducible refine N.obl (flat_lim _ _) ?_ | with_reducible refine N.eq ?_ | with_reducible refine N.obl rfl ?_ | with_reducible refine N.obl ⟨by kernel_rfl, by kernel_rfl⟩ ?_ | with_reducible refine N.forkT ?_ | with_reducible refine N.forkF ?_ | with_reducible refine N.fork (fun hb => ?_) (fun hb => ?_))
  · exact rgV_bad (fun h => by have := h.2.1.2; simp at hb; omega)
  · exact rgV_bad (fun h => by have := h.2.1.2; simp at hb; omega)
  · exact rgV_bad (fun h => by have := h.1; simp at hb; omega)
  · exact rgV_bad (fun h => by have := h.1; simp at hb; omega)
  · simp only [decide_eq_true_eq, decide_eq_false_iff_not] at *
    rename_i g1 g2 g3
    by_cases h0 : spanOK ra dr
    · skip
      by_cases h1 : spanOK db dr
      · skip
        by_cases h2 : spanOK rb dr
        · skip
          by_cases h3 : spanOK da dr
          · skip
            have s1 := spLo_in ra dr h0.1 h0.2
            have s2 := spHi_in ra dr h0.1 h0.2
            have s3 := spLo_in db dr h1.1 h1.2
            have s4 := spHi_in db dr h1.1 h1.2
            have s5 := spLo_in rb dr h2.1 h2.2
            have s6 := spHi_in rb dr h2.1 h2.2
            have s7 := spLo_in da dr h3.1 h3.2
            have s8 := spHi_in da dr h3.1 h3.2
            repeat' (refine N.go ?_; first | with_reducible refine N.obl (by decide) ?_ | with_reducible refine N.obl (flat_wi _ _ _) ?_ | with_reducible refine N.obl (flat_lim _ _) ?_ | with_reducible refine N.eq ?_ | with_reducible refine N.obl rfl ?_ | with_reducible refine N.obl ⟨by kernel_rfl, by kernel_rfl⟩ ?_ | with_reducible refine N.forkT ?_ | with_reducible refine N.forkF ?_ | refine N.roll 5 ?_ | refine N.idx 0 0 (by decide) (by decide) ?_ | refine N.idx 1 0 (by decide) (by decide) ?_ | refine N.idx 2 0 (by decide) (by decide) ?_ | refine N.idx 3 0 (by decide) (by decide) ?_ | with_reducible refine N.call (cSpan1 _ _ _ (by assumption)) ?_ | with_reducible refine N.call (cSpan0 _ _ _ (by assumption)) ?_ | with_reducible refine N.min2 ?_ | with_reducible refine N.max2 ?_ | with_reducible refine N.call (cLess _ _ _ _ _) ?_ | with_reducible refine N.call (cHalf _ _ (by simp only [IntKind.wrap_i64]; omega) (by simp only [IntKind.wrap_i64]; omega)) ?_ | with_reducible refine N.call (cHalfUp _ _ (by simp only [IntKind.wrap_i64]; omega) (by simp only [IntKind.wrap_i64]; omega)) ?_ | refine N.forkNo (by decide) ?_ | refine N.forkYes (by decide) ?_ | with_reducible refine N.fork (fun hb => ?_) (fun hb => ?_))
            all_goals have ho : rgOK ra db da rb dr sl := ⟨⟨by omega, by omega⟩, h0, h1, h2, h3⟩
            all_goals have w1 := wsmall (spHi ra dr - spLo db dr) (by omega) (by omega)
            all_goals have w2 := wsmall (spHi rb dr - spLo da dr) (by omega) (by omega)
            all_goals have w3 := wsmall (spLo ra dr - spHi db dr) (by omega) (by omega)
            all_goals have w4 := wsmall (spLo rb dr - spHi da dr) (by omega) (by omega)
            all_goals have eLo : max 0 (IntKind.i64.wrap (max (IntKind.i64.wrap (spLo ra dr - spHi db dr)) (IntKind.i64.wrap (spLo rb dr - spHi da dr)) / 2 - sl)) = rgLo ra db da rb dr sl := by rw [w3, w4, wsmall _ (by omega) (by omega)]; rfl
            all_goals have eHi : IntKind.i64.wrap (IntKind.i64.wrap (-(-min (IntKind.i64.wrap (spHi ra dr - spLo db dr)) (IntKind.i64.wrap (spHi rb dr - spLo da dr)) / 2) + 1) + sl) = rgHi ra db da rb dr sl := by rw [w1, w2, wsmall (-(-min (spHi ra dr - spLo db dr) (spHi rb dr - spLo da dr) / 2) + 1) (by omega) (by omega), wsmall _ (by omega) (by omega)]; rfl
            all_goals rw [eHi] at hb
            · rw [eLo, decide_eq_true_eq] at hb
              have e : rgE ra db da rb dr sl = 3 := by unfold rgE; rw [if_pos ho, if_pos hb]
              unfold rgV; rw [e]; rfl
            · rename_i k
              rw [eHi, eLo, decide_eq_false_iff_not] at k
              rw [decide_eq_true_eq] at hb
              have e : rgE ra db da rb dr sl = 2 := by unfold rgE; rw [if_pos ho, if_neg k, if_pos hb]
              unfold rgV; rw [e]; rfl
            · rename_i k
              rw [eHi, eLo, decide_eq_false_iff_not] at k
              rw [decide_eq_false_iff_not] at hb
              have e : rgE ra db da rb dr sl = 0 := by unfold rgE; rw [if_pos ho, if_neg k, if_neg hb]
              rw [eLo, eHi]; unfold rgV; rw [e]; rfl
          · repeat' (refine N.go ?_; first | with_reducible refine N.obl (by decide) ?_ | with_reducible refine N.obl (flat_wi _ _ _) ?_ | with_reducible refine N.obl (flat_lim _ _) ?_ | with_reducible refine N.eq ?_ | with_reducible refine N.obl rfl ?_ | with_reducible refine N.obl ⟨by kernel_rfl, by kernel_rfl⟩ ?_ | with_reducible refine N.forkT ?_ | with_reducible refine N.forkF ?_ | refine N.roll 5 ?_ | refine N.idx 0 0 (by decide) (by decide) ?_ | refine N.idx 1 0 (by decide) (by decide) ?_ | refine N.idx 2 0 (by decide) (by decide) ?_ | refine N.idx 3 0 (by decide) (by decide) ?_ | with_reducible refine N.call (cSpan1 _ _ _ (by assumption)) ?_ | with_reducible refine N.call (cSpan0 _ _ _ (by assumption)) ?_ | refine N.forkNo (by decide) ?_ | refine N.forkYes (by decide) ?_)
            exact rgV_bad (fun h => h3 h.2.2.2.2)
        · repeat' (refine N.go ?_; first | with_reducible refine N.obl (by decide) ?_ | with_reducible refine N.obl (flat_wi _ _ _) ?_ | with_reducible refine N.obl (flat_lim _ _) ?_ | with_reducible refine N.eq ?_ | with_reducible refine N.obl rfl ?_ | with_reducible refine N.obl ⟨by kernel_rfl, by kernel_rfl⟩ ?_ | with_reducible refine N.forkT ?_ | with_reducible refine N.forkF ?_ | refine N.roll 5 ?_ | refine N.idx 0 0 (by decide) (by decide) ?_ | refine N.idx 1 0 (by decide) (by decide) ?_ | refine N.idx 2 0 (by decide) (by decide) ?_ | refine N.idx 3 0 (by decide) (by decide) ?_ | with_reducible refine N.call (cSpan1 _ _ _ (by assumption)) ?_ | with_reducible refine N.call (cSpan0 _ _ _ (by assumption)) ?_ | refine N.forkNo (by decide) ?_ | refine N.forkYes (by decide) ?_)
          exact rgV_bad (fun h => h2 h.2.2.2.1)
      · repeat' (refine N.go ?_; first | with_reducible refine N.obl (by decide) ?_ | with_reducible refine N.obl (flat_wi _ _ _) ?_ | with_reducible refine N.obl (flat_lim _ _) ?_ | with_reducible refine N.eq ?_ | with_reducible refine N.obl rfl ?_ | with_reducible refine N.obl ⟨by kernel_rfl, by kernel_rfl⟩ ?_ | with_reducible refine N.forkT ?_ | with_reducible refine N.forkF ?_ | refine N.roll 5 ?_ | refine N.idx 0 0 (by decide) (by decide) ?_ | refine N.idx 1 0 (by decide) (by decide) ?_ | refine N.idx 2 0 (by decide) (by decide) ?_ | refine N.idx 3 0 (by decide) (by decide) ?_ | with_reducible refine N.call (cSpan1 _ _ _ (by assumption)) ?_ | with_reducible refine N.call (cSpan0 _ _ _ (by assumption)) ?_ | refine N.forkNo (by decide) ?_ | refine N.forkYes (by decide) ?_)
        exact rgV_bad (fun h => h1 h.2.2.1)
    · repeat' (refine N.go ?_; first | with_reducible refine N.obl (by decide) ?_ | with_reducible refine N.obl (flat_wi _ _ _) ?_ | with_reducible refine N.obl (flat_lim _ _) ?_ | with_reducible refine N.eq ?_ | with_reducible refine N.obl rfl ?_ | with_reducible refine N.obl ⟨by kernel_rfl, by kernel_rfl⟩ ?_ | with_reducible refine N.forkT ?_ | with_reducible refine N.forkF ?_ | refine N.roll 5 ?_ | refine N.idx 0 0 (by decide) (by decide) ?_ | refine N.idx 1 0 (by decide) (by decide) ?_ | refine N.idx 2 0 (by decide) (by decide) ?_ | refine N.idx 3 0 (by decide) (by decide) ?_ | with_reducible refine N.call (cSpan1 _ _ _ (by assumption)) ?_ | with_reducible refine N.call (cSpan0 _ _ _ (by assumption)) ?_ | refine N.forkNo (by decide) ?_ | refine N.forkYes (by decide) ?_)
      exact rgV_bad (fun h => h0 h.2.1)
theorem cRange (ra db da rb dr sl : Int) (h : List (Option Chunk)) : CallOK Try.prog 20 [.agg #[.int .i64 ra, .int .i64 db, .int .i64 da, .int .i64 rb], .int .i64 dr, .int .i64 sl] h (rgV ra db da rb dr sl) [] [] :=
  call_pure rfl rfl (Try.call20 _) (range_x ra db da rb dr sl)
theorem range15 : rgV 30 10 10 30 0 0 = .tuple #[.int .i64 9, .int .i64 12, .int .i64 0] := by
  have e : rgE 30 10 10 30 0 0 = 0 := by decide
  have e1 : rgLo 30 10 10 30 0 0 = 9 := by decide
  have e2 : rgHi 30 10 10 30 0 0 = 12 := by decide
  unfold rgV; rw [e, e1, e2]; rfl
theorem cRange15 (h : List (Option Chunk)) : CallOK Try.prog 20 [.agg #[.int .i64 30, .int .i64 10, .int .i64 10, .int .i64 30], .int .i64 0, .int .i64 0] h (.tuple #[.int .i64 9, .int .i64 12, .int .i64 0]) [] [] := by
  rw [← range15]; exact cRange _ _ _ _ _ _ _
set_option maxRecDepth 100000 in
theorem awake15_x   (w : World) : Calls Try.prog 22 #[] w fun e w' => e = .returned (.bool true) ∧ Below w.heap.size w w' := by
  refine calls_pure (G := tys) w tysOK mixed Try.func22 (by rfl) (by first | rfl | (simp only [List.all_cons, List.all_nil, plain_wz, plain_lim, plain_wi]; rfl)) (by first | exact plain3_wz _ | exact plain3_wi _ _ _ | rfl | (simp only [plain3, List.all_cons, List.all_nil, plain_wz, plain_lim, plain_wi]; rfl)) ?_
  repeat' (refine N.go ?_; first | with_reducible refine N.obl (by decide) ?_ | with_reducible refine N.obl (flat_wi _ _ _) ?_ | with_reducible refine N.obl (flat_lim _ _) ?_ | with_reducible refine N.eq ?_ | with_reducible refine N.obl rfl ?_ | with_reducible refine N.obl ⟨by kernel_rfl, by kernel_rfl⟩ ?_ | with_reducible refine N.forkT ?_ | with_reducible refine N.forkF ?_ | with_reducible refine N.call (cRange15 _) ?_ | refine N.forkNo (by decide) ?_ | refine N.forkYes (by decide) ?_)
  all_goals rfl
theorem cAwake15 (h : List (Option Chunk)) : CallOK Try.prog 22 [] h (.bool true) [] [] :=
  call_pure rfl rfl (Try.call22 _) (awake15_x)
end Go.Proofs.Ytioohgocbpdkeaa
