/-
  The walk of clock's awake; ranges of arguments.
-/
import Derived.Test.YtioohgocbpdkeaaClk
import Derived.Test.YtioohgocbpdkeaaRows
set_option linter.unusedVariables false
set_option linter.unusedSimpArgs false
namespace Go.Proofs.Ytioohgocbpdkeaa
open Go Go.RowKit Sx

theorem Try.own : ownKnob Try.prog.godebug = none := by kernel_rfl
theorem Try.laidOut : laidOutB Try.prog = true := by kernel_rfl
theorem u64mod (x : Int) (m : Int) (h0 : 0 < m) (h1 : m ≤ 9223372036854775807) : 0 ≤ IntKind.i64.wrap ((IntKind.u64.wrap x).tmod m) ∧ IntKind.i64.wrap ((IntKind.u64.wrap x).tmod m) < m := by
  have e : 0 ≤ IntKind.u64.wrap x := by rw [IntKind.wrap_u64]; omega
  rw [Int.tmod_eq_emod_of_nonneg e]
  have a := Int.emod_nonneg (IntKind.u64.wrap x) (by omega : m ≠ 0)
  have b := Int.emod_lt_of_pos (IntKind.u64.wrap x) h0
  rw [wsmall _ (by omega) (by omega)]
  exact ⟨a, b⟩
theorem tmodR (x m : Int) (hm : 0 < m) : -m < x.tmod m ∧ x.tmod m < m := by
  rcases Int.le_total 0 x with h | h
  · rw [Int.tmod_eq_emod_of_nonneg h]
    have a := Int.emod_nonneg x (by omega : m ≠ 0)
    have b := Int.emod_lt_of_pos x hm
    omega
  · have : x.tmod m = -((-x).tmod m) := by rw [Int.neg_tmod]; omega
    rw [this, Int.tmod_eq_emod_of_nonneg (by omega)]
    have a := Int.emod_nonneg (-x) (by omega : m ≠ 0)
    have b := Int.emod_lt_of_pos (-x) hm
    omega
theorem ok2 {d x : Int} (h1 : 0 ≤ d) (h2 : d ≤ 70368744177664) (h3 : 0 ≤ x) (h4 : x ≤ 1000) : spanOK d x := ⟨⟨h1, h2⟩, ⟨h3, h4⟩⟩
theorem ok3 {d o g : Int} (h1 : -1000 ≤ d) (h2 : d ≤ 1000) (h3 : 0 ≤ o) (h4 : o ≤ 70368744177664) (h5 : 0 ≤ g) (h6 : g ≤ 70368744177664) : fineOK d o g := ⟨⟨h1, h2⟩, ⟨h3, h4⟩, h5, h6⟩
theorem spanV_in {d x : Int} (h : spanOK d x) : spanV d x = .tuple #[.int .i64 (spLo d x), .int .i64 (spHi d x), .int .i64 0] := by unfold spanV; rw [if_pos h, if_pos h, if_pos h]
theorem fineV_in {d o g : Int} (h : fineOK d o g) : fineV d o g = .tuple #[.int .i64 (fineN d o g), .int .i64 0] := by unfold fineV; rw [if_pos h, if_pos h]
theorem cSpan1 (a b : Int) (h : List (Option Chunk)) (ho : spanOK a b) : CallOK Try.prog 15 [.int .i64 a, .int .i64 b] h (.tuple #[.int .i64 (spLo a b), .int .i64 (spHi a b), .int .i64 0]) [] [] := by
  rw [← spanV_in ho]; exact cSpan a b h
theorem cFine1 (a b c : Int) (h : List (Option Chunk)) (ho : fineOK a b c) : CallOK Try.prog 16 [.int .i64 a, .int .i64 b, .int .i64 c] h (.tuple #[.int .i64 (fineN a b c), .int .i64 0]) [] [] := by
  rw [← fineV_in ho]; exact cFine a b c h
set_option maxRecDepth 100000 in
theorem awake14_x   (w : World) : Calls Try.prog 14 #[] w fun e w' => e = .returned (.bool true) ∧ Below w.heap.size w w' := by
  refine calls_pure (G := tys) w tysOK mixed Try.func14 (by rfl) (by first | rfl | (simp only [List.all_cons, List.all_nil, plain_wz, plain_lim, plain_wi]; rfl)) (by first | exact plain3_wz _ | exact plain3_wi _ _ _ | rfl | (simp only [plain3, List.all_cons, List.all_nil, plain_wz, plain_lim, plain_wi]; rfl)) ?_
  repeat' (refine N.go ?_; first | with_reducible refine N.obl (by decide) ?_ | with_reducible refine N.obl (flat_wi _ _ _) ?_ | with_reducible refine N.obl (flat_lim _ _) ?_ | with_reducible refine N.eq ?_ | with_reducible refine N.obl rfl ?_ | with_reducible refine N.obl ⟨by kernel_rfl, by kernel_rfl⟩ ?_ | with_reducible refine N.forkT ?_ | with_reducible refine N.forkF ?_ | with_reducible refine N.call (cSpan1 10 0 _ (by decide)) ?_ | with_reducible refine N.call (cLocal 3 4 _) ?_ | refine N.forkNo (by decide) ?_ | refine N.forkYes (by decide) ?_)
  all_goals rfl
theorem cAwake14 (h : List (Option Chunk)) : CallOK Try.prog 14 [] h (.bool true) [] [] :=
  call_pure rfl rfl (Try.call14 _) (awake14_x)
end Go.Proofs.Ytioohgocbpdkeaa
