/-
  clock's Fine and Span where the arguments are in range.
-/
import Derived.Test.YtioohgocbpdkeaaClk
import Derived.Test.YtioohgocbpdkeaaRows
set_option linter.unusedVariables false
set_option linter.unusedSimpArgs false
namespace Go.Proofs.Ytioohgocbpdkeaa
open Go Go.RowKit Sx

theorem ok2 {d x : Int} (h1 : 0 ≤ d) (h2 : d ≤ 70368744177664) (h3 : 0 ≤ x) (h4 : x ≤ 1000) : spanOK d x := ⟨⟨h1, h2⟩, ⟨h3, h4⟩⟩
theorem ok3 {d o g : Int} (h1 : -1000 ≤ d) (h2 : d ≤ 1000) (h3 : 0 ≤ o) (h4 : o ≤ 70368744177664) (h5 : 0 ≤ g) (h6 : g ≤ 70368744177664) : fineOK d o g := ⟨⟨h1, h2⟩, ⟨h3, h4⟩, h5, h6⟩
theorem spanV_in {d x : Int} (h : spanOK d x) : spanV d x = .tuple #[.int .i64 (spLo d x), .int .i64 (spHi d x), .int .i64 0] := by unfold spanV; rw [if_pos h, if_pos h, if_pos h]
theorem fineV_in {d o g : Int} (h : fineOK d o g) : fineV d o g = .tuple #[.int .i64 (fineN d o g), .int .i64 0] := by unfold fineV; rw [if_pos h, if_pos h]
theorem cSpan1 (a b : Int) (h : List (Option Chunk)) (ho : spanOK a b) : CallOK Try.prog 15 [.int .i64 a, .int .i64 b] h (.tuple #[.int .i64 (spLo a b), .int .i64 (spHi a b), .int .i64 0]) [] [] := by
  rw [← spanV_in ho]; exact cSpan a b h
theorem cFine1 (a b c : Int) (h : List (Option Chunk)) (ho : fineOK a b c) : CallOK Try.prog 16 [.int .i64 a, .int .i64 b, .int .i64 c] h (.tuple #[.int .i64 (fineN a b c), .int .i64 0]) [] [] := by
  rw [← fineV_in ho]; exact cFine a b c h
end Go.Proofs.Ytioohgocbpdkeaa
