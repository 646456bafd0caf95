/-
  The walks of the small functions time and Fresh, and of the reference's.
-/
import Derived.Test.YtphilonmniidmaaRows
import Derived.Test.YtphilonmniidmaaBase
set_option linter.unusedVariables false
namespace Go.Proofs.Ytphilonmniidmaa
open Go.RowKit


def tm (t : Int) : Bool := decide (0 ≤ t ∧ t ≤ 1000000)

theorem tm_true {t : Int} (h : 0 ≤ t ∧ t ≤ 1000000) : tm t = true := by simp [tm, h]
theorem tm_false {t : Int} (h : ¬ (0 ≤ t ∧ t ≤ 1000000)) : tm t = false := by simp only [tm, decide_eq_false_iff_not]; exact h
theorem tm_iff {t : Int} : tm t = true ↔ 0 ≤ t ∧ t ≤ 1000000 := by simp [tm]

theorem time_any (t : Int) (w : World) :
    Calls Try.prog 14 #[.int .i64 t] w fun e w' => e = .returned (.bool (tm t)) ∧ w = w' := by
  by_cases h0 : 0 ≤ t
  · by_cases h1 : t ≤ 1000000
    all_goals
      go_enter Try.func14, Try.ntmps14
      go_wp2
      go_ret
      first | exact ⟨ret_bool (tm_true (by omega)).symm, rfl⟩ | exact ⟨ret_bool (tm_false (by omega)).symm, rfl⟩
  · go_enter Try.func14, Try.ntmps14
    go_wp2
    go_ret
    exact ⟨ret_bool (tm_false (by omega)).symm, rfl⟩

theorem rtime_any (t : Int) (w : World) :
    Calls Try.prog 15 #[.int .i64 t] w fun e w' => e = .returned (.bool (tm t)) ∧ w = w' := by
  by_cases h0 : 0 ≤ t
  · by_cases h1 : t ≤ 1000000
    all_goals
      go_enter Try.func15, Try.ntmps15
      go_wp2
      go_ret
      first | exact ⟨ret_bool (tm_true (by omega)).symm, rfl⟩ | exact ⟨ret_bool (tm_false (by omega)).symm, rfl⟩
  · go_enter Try.func15, Try.ntmps15
    go_wp2
    go_ret
    exact ⟨ret_bool (tm_false (by omega)).symm, rfl⟩

/-- Fresh as a plain function. -/
def fr (st nw sl sk : Int) : Int :=
  if 0 ≤ st ∧ st ≤ 1000000 ∧ 0 ≤ nw ∧ nw ≤ 1000000 ∧ 0 ≤ sl ∧ sl ≤ 1000000 ∧ 0 ≤ sk ∧ sk ≤ 1000000 then (if st + sl < nw ∨ nw + 2 * sk < st then 9 else 0) else 1

theorem fr_bad {st nw sl sk : Int} (h : ¬ (0 ≤ st ∧ st ≤ 1000000 ∧ 0 ≤ nw ∧ nw ≤ 1000000 ∧ 0 ≤ sl ∧ sl ≤ 1000000 ∧ 0 ≤ sk ∧ sk ≤ 1000000)) : 1 = fr st nw sl sk := by rw [fr, if_neg h]
theorem fr_old {st nw sl sk : Int} (h : 0 ≤ st ∧ st ≤ 1000000 ∧ 0 ≤ nw ∧ nw ≤ 1000000 ∧ 0 ≤ sl ∧ sl ≤ 1000000 ∧ 0 ≤ sk ∧ sk ≤ 1000000) (g : st + sl < nw ∨ nw + 2 * sk < st) : 9 = fr st nw sl sk := by rw [fr, if_pos h, if_pos g]
theorem fr_ok {st nw sl sk : Int} (h : 0 ≤ st ∧ st ≤ 1000000 ∧ 0 ≤ nw ∧ nw ≤ 1000000 ∧ 0 ≤ sl ∧ sl ≤ 1000000 ∧ 0 ≤ sk ∧ sk ≤ 1000000) (g : ¬ (st + sl < nw ∨ nw + 2 * sk < st)) : 0 = fr st nw sl sk := by rw [fr, if_pos h, if_neg g]

set_option maxHeartbeats 400000 in
theorem fresh_any (st nw sl sk : Int) (w : World) :
    Calls Try.prog 10 #[.int .i64 st, .int .i64 nw, .int .i64 sl, .int .i64 sk] w fun e w' => e = .returned (.int .i64 (fr st nw sl sk)) ∧ w = w' := by
  by_cases h : 0 ≤ st ∧ st ≤ 1000000 ∧ 0 ≤ nw ∧ nw ≤ 1000000 ∧ 0 ≤ sl ∧ sl ≤ 1000000 ∧ 0 ≤ sk ∧ sk ≤ 1000000
  · obtain ⟨a1, a2, b1, b2, c1, c2, d1, d2⟩ := h
    go_enter Try.func10, Try.ntmps10
    go_wp2
    all_goals
      go_ret
      first | exact ⟨ret_int (fr_old (by omega) (by omega)), rfl⟩ | exact ⟨ret_int (fr_ok (by omega) (by omega)), rfl⟩
  · have hb := fr_bad h
    have HB := Lib.hid hb
    clear hb
    by_cases h1 : 0 ≤ st ∧ st ≤ 1000000
    · have e1 := tm_true h1
      by_cases h2 : 0 ≤ nw ∧ nw ≤ 1000000
      · have e2 := tm_true h2
        by_cases h3 : 0 ≤ sl ∧ sl ≤ 1000000
        · have e3 := tm_true h3
          have e4 : tm sk = false := tm_false (by omega)
          clear h h1 h2 h3
          go_enter Try.func10, Try.ntmps10
          go_wp2_with (go_at_call 14; refine (time_any _ _).mono ?_; rintro e w' ⟨rfl, rfl⟩)
          go_ret
          exact ⟨ret_int HB.out, rfl⟩
        · have e3 := tm_false h3
          clear h h1 h2 h3
          go_enter Try.func10, Try.ntmps10
          go_wp2_with (go_at_call 14; refine (time_any _ _).mono ?_; rintro e w' ⟨rfl, rfl⟩)
          go_ret
          exact ⟨ret_int HB.out, rfl⟩
      · have e2 := tm_false h2
        clear h h1 h2
        go_enter Try.func10, Try.ntmps10
        go_wp2_with (go_at_call 14; refine (time_any _ _).mono ?_; rintro e w' ⟨rfl, rfl⟩)
        go_ret
        exact ⟨ret_int HB.out, rfl⟩
    · have e1 := tm_false h1
      clear h h1
      go_enter Try.func10, Try.ntmps10
      go_wp2_with (go_at_call 14; refine (time_any _ _).mono ?_; rintro e w' ⟨rfl, rfl⟩)
      go_ret
      exact ⟨ret_int HB.out, rfl⟩

set_option maxHeartbeats 400000 in
theorem rfresh_any (st nw sl sk : Int) (w : World) :
    Calls Try.prog 13 #[.int .i64 st, .int .i64 nw, .int .i64 sl, .int .i64 sk] w fun e w' => e = .returned (.int .i64 (fr st nw sl sk)) ∧ w = w' := by
  by_cases h : 0 ≤ st ∧ st ≤ 1000000 ∧ 0 ≤ nw ∧ nw ≤ 1000000 ∧ 0 ≤ sl ∧ sl ≤ 1000000 ∧ 0 ≤ sk ∧ sk ≤ 1000000
  · obtain ⟨a1, a2, b1, b2, c1, c2, d1, d2⟩ := h
    go_enter Try.func13, Try.ntmps13
    go_wp2
    all_goals
      go_ret
      first | exact ⟨ret_int (fr_old (by omega) (by omega)), rfl⟩ | exact ⟨ret_int (fr_ok (by omega) (by omega)), rfl⟩
  · have hb := fr_bad h
    have HB := Lib.hid hb
    clear hb
    by_cases h1 : 0 ≤ st ∧ st ≤ 1000000
    · have e1 := tm_true h1
      by_cases h2 : 0 ≤ nw ∧ nw ≤ 1000000
      · have e2 := tm_true h2
        by_cases h3 : 0 ≤ sl ∧ sl ≤ 1000000
        · have e3 := tm_true h3
          have e4 : tm sk = false := tm_false (by omega)
          clear h h1 h2 h3
          go_enter Try.func13, Try.ntmps13
          go_wp2_with (go_at_call 15; refine (rtime_any _ _).mono ?_; rintro e w' ⟨rfl, rfl⟩)
          go_ret
          exact ⟨ret_int HB.out, rfl⟩
        · have e3 := tm_false h3
          clear h h1 h2 h3
          go_enter Try.func13, Try.ntmps13
          go_wp2_with (go_at_call 15; refine (rtime_any _ _).mono ?_; rintro e w' ⟨rfl, rfl⟩)
          go_ret
          exact ⟨ret_int HB.out, rfl⟩
      · have e2 := tm_false h2
        clear h h1 h2
        go_enter Try.func13, Try.ntmps13
        go_wp2_with (go_at_call 15; refine (rtime_any _ _).mono ?_; rintro e w' ⟨rfl, rfl⟩)
        go_ret
        exact ⟨ret_int HB.out, rfl⟩
    · have e1 := tm_false h1
      clear h h1
      go_enter Try.func13, Try.ntmps13
      go_wp2_with (go_at_call 15; refine (rtime_any _ _).mono ?_; rintro e w' ⟨rfl, rfl⟩)
      go_ret
      exact ⟨ret_int HB.out, rfl⟩
end Go.Proofs.Ytphilonmniidmaa
