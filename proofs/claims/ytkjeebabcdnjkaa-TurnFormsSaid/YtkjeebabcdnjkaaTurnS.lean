/-
  The walks of the small functions of turn: in, may, Of.
-/
import Derived.Test.YtkjeebabcdnjkaaRows
import Derived.Test.YtkjeebabcdnjkaaBase
import Derived.Test.YtkjeebabcdnjkaaFloat
import Derived.Deep.RegionHeld3
import Derived.Laws.ComplexArith
set_option linter.unusedVariables false
namespace Go.Proofs.Ytkjeebabcdnjkaa
open Go.RowKit

theorem bcell {W w1 : World} (hb : Below W.heap.size W w1) : (∀ b o, b < W.heap.size → w1.cell? ⟨b, o, none⟩ = W.cell? ⟨b, o, none⟩) ∧ (∀ b o, b < W.heap.size → w1.frozen? ⟨b, o, none⟩ = W.frozen? ⟨b, o, none⟩) :=
  ⟨fun b o h => hb.cell (p := ⟨b, o, none⟩) h, fun b o h => hb.frozen (p := ⟨b, o, none⟩) h⟩

def inB (n most : Int) : Bool := decide (-most ≤ n ∧ n ≤ most)
theorem inB_t {n most : Int} (h : -most ≤ n ∧ n ≤ most) : inB n most = true := by simp [inB, h]
theorem inB_f {n most : Int} (h : ¬ (-most ≤ n ∧ n ≤ most)) : inB n most = false := by simp only [inB, decide_eq_false_iff_not]; exact h

theorem in_any (n most : Int) (w : World) (h : 0 ≤ most ∧ most ≤ 1000000000000) :
    Calls Try.prog 25 #[.int .i64 n, .int .i64 most] w fun e w' => e = .returned (.bool (inB n most)) ∧ w = w' := by
  obtain ⟨h0, h1⟩ := h
  by_cases a : -most ≤ n
  · by_cases b : n ≤ most
    all_goals
      go_enter Try.func25, Try.ntmps25
      go_wp2
      go_ret
      first | exact ⟨ret_bool (inB_t ⟨a, b⟩).symm, rfl⟩ | exact ⟨ret_bool (inB_f (by omega)).symm, rfl⟩
  · go_enter Try.func25, Try.ntmps25
    go_wp2
    go_ret
    exact ⟨ret_bool (inB_f (by omega)).symm, rfl⟩

/-- The point may be a step. -/
def stp (x y : Int) : Bool := decide (-4194304 ≤ x ∧ x ≤ 4194304 ∧ -4194304 ≤ y ∧ y ≤ 4194304)
theorem stp_t {x y : Int} (h : -4194304 ≤ x ∧ x ≤ 4194304 ∧ -4194304 ≤ y ∧ y ≤ 4194304) : stp x y = true := by simp [stp, h]
theorem stp_f {x y : Int} (h : ¬ (-4194304 ≤ x ∧ x ≤ 4194304 ∧ -4194304 ≤ y ∧ y ≤ 4194304)) : stp x y = false := by simp only [stp, decide_eq_false_iff_not]; exact h
theorem stp_iff {x y : Int} : stp x y = true ↔ -4194304 ≤ x ∧ x ≤ 4194304 ∧ -4194304 ≤ y ∧ y ≤ 4194304 := by simp [stp]

theorem may_any (x y : Int) (w : World) :
    Calls Try.prog 24 #[.agg #[.int .i64 x, .int .i64 y]] w fun e w' => e = .returned (.bool (stp x y)) ∧ Below w.heap.size w w' := by
  by_cases a : -4194304 ≤ x ∧ x ≤ 4194304
  · have ha := inB_t (most := 4194304) a
    by_cases b : -4194304 ≤ y ∧ y ≤ 4194304
    · have hb := inB_t (most := 4194304) b
      have hs := stp_t (x := x) (y := y) ⟨a.1, a.2, b.1, b.2⟩
      clear a b
      go_enter Try.func24, Try.ntmps24
      go_wp2_with (go_at_call 25; refine (in_any _ _ _ (by decide)).mono ?_; rintro e w' ⟨rfl, rfl⟩)
      go_ret
      exact ⟨ret_bool hs.symm, (Below.refl _ _).alloc (Nat.le_refl _) _⟩
    · have hb := inB_f (most := 4194304) b
      have hs := stp_f (x := x) (y := y) (by omega)
      clear a b
      go_enter Try.func24, Try.ntmps24
      go_wp2_with (go_at_call 25; refine (in_any _ _ _ (by decide)).mono ?_; rintro e w' ⟨rfl, rfl⟩)
      go_ret
      exact ⟨ret_bool hs.symm, (Below.refl _ _).alloc (Nat.le_refl _) _⟩
  · have ha := inB_f (most := 4194304) a
    have hs := stp_f (x := x) (y := y) (by omega)
    clear a
    go_enter Try.func24, Try.ntmps24
    go_wp2_with (go_at_call 25; refine (in_any _ _ _ (by decide)).mono ?_; rintro e w' ⟨rfl, rfl⟩)
    go_ret
    exact ⟨ret_bool hs.symm, (Below.refl _ _).alloc (Nat.le_refl _) _⟩

/-- The parts of Of. -/
def ofR (x y : Int) : Nat := if stp x y = true then floatOfInt .f64 x else 0
def ofI (x y : Int) : Nat := if stp x y = true then floatOfInt .f64 y else 0
/-- The step itself, the zero vector for what is no step. -/
def cx (x y : Int) : Int := if stp x y = true then x else 0
def cy (x y : Int) : Int := if stp x y = true then y else 0

theorem cx_b (x y : Int) : -4194304 ≤ cx x y ∧ cx x y ≤ 4194304 := by
  unfold cx; split
  · rename_i h; have := stp_iff.1 h; omega
  · omega
theorem cy_b (x y : Int) : -4194304 ≤ cy x y ∧ cy x y ≤ 4194304 := by
  unfold cy; split
  · rename_i h; have := stp_iff.1 h; omega
  · omega
theorem w_zero : FZ.W 0 0 := ⟨false, 0, -1074, 1074, by decide +kernel, by omega, by rw [show FZ.sm false 0 = 0 from rfl, Int.zero_mul, Int.zero_mul]⟩
theorem w_ofR (x y : Int) : FZ.W (ofR x y) (cx x y) := by
  unfold ofR cx; split
  · rename_i h; have := stp_iff.1 h; exact FZ.W.of_int (by omega)
  · exact w_zero
theorem w_ofI (x y : Int) : FZ.W (ofI x y) (cy x y) := by
  unfold ofI cy; split
  · rename_i h; have := stp_iff.1 h; exact FZ.W.of_int (by omega)
  · exact w_zero

theorem ret_c {a b c d : Nat} (h : a = c) (k : b = d) : Ending.returned (.complex .f64 a b) = .returned (.complex .f64 c d) := by rw [h, k]

theorem of_any (x y : Int) (w : World) :
    Calls Try.prog 14 #[.agg #[.int .i64 x, .int .i64 y]] w fun e w' => e = .returned (.complex .f64 (ofR x y) (ofI x y)) ∧ Below w.heap.size w w' := by
  cases h : stp x y
  · have h1 : 0 = ofR x y := by unfold ofR; rw [h]; rfl
    have h2 : 0 = ofI x y := by unfold ofI; rw [h]; rfl
    have H1 := Lib.hid h1
    have H2 := Lib.hid h2
    clear h1 h2
    go_enter Try.func14, Try.ntmps14
    go_wp2_with (go_at_call 24; refine (may_any _ _ _).mono ?_; rintro e w1 ⟨rfl, hb⟩)
    go_ret
    exact ⟨ret_c H1.out H2.out, ((Below.refl _ _).alloc (Nat.le_refl _) _).trans (hb.mono (by simp))⟩
  · have h1 : floatOfInt .f64 x = ofR x y := by unfold ofR; rw [h]; rfl
    have h2 : floatOfInt .f64 y = ofI x y := by unfold ofI; rw [h]; rfl
    have H1 := Lib.hid h1
    have H2 := Lib.hid h2
    clear h1 h2
    go_enter Try.func14, Try.ntmps14
    go_wp2_with (go_at_call 24; refine (may_any _ _ _).mono ?_; rintro e w1 ⟨rfl, hb⟩; obtain ⟨hc, hf⟩ := bcell hb)
    go_ret
    exact ⟨ret_c H1.out H2.out, ((Below.refl _ _).alloc (Nat.le_refl _) _).trans (hb.mono (by simp))⟩

theorem prod_b {a b : Int} (k : Int) (ha : -k ≤ a ∧ a ≤ k) (l : Int) (hb : -l ≤ b ∧ b ≤ l) : -(k * l) ≤ a * b ∧ a * b ≤ k * l := by
  have h1 : a.natAbs ≤ k.natAbs := by omega
  have h2 : b.natAbs ≤ l.natAbs := by omega
  have h3 : (a * b).natAbs ≤ (k * l).natAbs := by rw [Int.natAbs_mul, Int.natAbs_mul]; exact Nat.mul_le_mul h1 h2
  have h4 : 0 ≤ k * l := Int.mul_nonneg (by omega) (by omega)
  omega
end Go.Proofs.Ytkjeebabcdnjkaa
