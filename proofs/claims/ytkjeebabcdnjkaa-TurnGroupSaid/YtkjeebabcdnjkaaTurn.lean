/-
  The walks of the small functions of turn: in, may, Of, Mul.
-/
import Derived.Test.YtkjeebabcdnjkaaRows
import Derived.Test.YtkjeebabcdnjkaaBase
import Derived.Test.YtkjeebabcdnjkaaFloat
import Derived.Deep.RegionHeld3
import Derived.Laws.ComplexArith
set_option linter.unusedVariables false
namespace Go.Proofs.Ytkjeebabcdnjkaa
open Go.RowKit

theorem bcell {W w1 : World} (hb : Below W.heap.size W w1) : (∀ b o, b < W.heap.size → w1.cell? ⟨b, o, none⟩ = W.cell? ⟨b, o, none⟩) ∧ (∀ b o, b < W.heap.size → w1.frozen? ⟨b, o, none⟩ = W.frozen? ⟨b, o, none⟩) :=
  ⟨fun b o h => hb.cell (p := ⟨b, o, none⟩) h, fun b o h => hb.frozen (p := ⟨b, o, none⟩) h⟩

def inB (n most : Int) : Bool := decide (-most ≤ n ∧ n ≤ most)
theorem inB_t {n most : Int} (h : -most ≤ n ∧ n ≤ most) : inB n most = true := by simp [inB, h]
theorem inB_f {n most : Int} (h : ¬ (-most ≤ n ∧ n ≤ most)) : inB n most = false := by simp only [inB, decide_eq_false_iff_not]; exact h

theorem in_any (n most : Int) (w : World) (h : 0 ≤ most ∧ most ≤ 1000000000000) :
    Calls Try.prog 25 #[.int .i64 n, .int .i64 most] w fun e w' => e = .returned (.bool (inB n most)) ∧ w = w' := by
  obtain ⟨h0, h1⟩ := h
  by_cases a : -most ≤ n
  · by_cases b : n ≤ most
    all_goals
      go_enter Try.func25, Try.ntmps25
      go_wp2
      go_ret
      first | exact ⟨ret_bool (inB_t ⟨a, b⟩).symm, rfl⟩ | exact ⟨ret_bool (inB_f (by omega)).symm, rfl⟩
  · go_enter Try.func25, Try.ntmps25
    go_wp2
    go_ret
    exact ⟨ret_bool (inB_f (by omega)).symm, rfl⟩

/-- The point may be a step. -/
def stp (x y : Int) : Bool := decide (-4194304 ≤ x ∧ x ≤ 4194304 ∧ -4194304 ≤ y ∧ y ≤ 4194304)
theorem stp_t {x y : Int} (h : -4194304 ≤ x ∧ x ≤ 4194304 ∧ -4194304 ≤ y ∧ y ≤ 4194304) : stp x y = true := by simp [stp, h]
theorem stp_f {x y : Int} (h : ¬ (-4194304 ≤ x ∧ x ≤ 4194304 ∧ -4194304 ≤ y ∧ y ≤ 4194304)) : stp x y = false := by simp only [stp, decide_eq_false_iff_not]; exact h
theorem stp_iff {x y : Int} : stp x y = true ↔ -4194304 ≤ x ∧ x ≤ 4194304 ∧ -4194304 ≤ y ∧ y ≤ 4194304 := by simp [stp]

theorem may_any (x y : Int) (w : World) :
    Calls Try.prog 24 #[.agg #[.int .i64 x, .int .i64 y]] w fun e w' => e = .returned (.bool (stp x y)) ∧ Below w.heap.size w w' := by
  by_cases a : -4194304 ≤ x ∧ x ≤ 4194304
  · have ha := inB_t (most := 4194304) a
    by_cases b : -4194304 ≤ y ∧ y ≤ 4194304
    · have hb := inB_t (most := 4194304) b
      have hs := stp_t (x := x) (y := y) ⟨a.1, a.2, b.1, b.2⟩
      clear a b
      go_enter Try.func24, Try.ntmps24
      go_wp2_with (go_at_call 25; refine (in_any _ _ _ (by decide)).mono ?_; rintro e w' ⟨rfl, rfl⟩)
      go_ret
      exact ⟨ret_bool hs.symm, (Below.refl _ _).alloc (Nat.le_refl _) _⟩
    · have hb := inB_f (most := 4194304) b
      have hs := stp_f (x := x) (y := y) (by omega)
      clear a b
      go_enter Try.func24, Try.ntmps24
      go_wp2_with (go_at_call 25; refine (in_any _ _ _ (by decide)).mono ?_; rintro e w' ⟨rfl, rfl⟩)
      go_ret
      exact ⟨ret_bool hs.symm, (Below.refl _ _).alloc (Nat.le_refl _) _⟩
  · have ha := inB_f (most := 4194304) a
    have hs := stp_f (x := x) (y := y) (by omega)
    clear a
    go_enter Try.func24, Try.ntmps24
    go_wp2_with (go_at_call 25; refine (in_any _ _ _ (by decide)).mono ?_; rintro e w' ⟨rfl, rfl⟩)
    go_ret
    exact ⟨ret_bool hs.symm, (Below.refl _ _).alloc (Nat.le_refl _) _⟩

/-- The parts of Of. -/
def ofR (x y : Int) : Nat := if stp x y = true then floatOfInt .f64 x else 0
def ofI (x y : Int) : Nat := if stp x y = true then floatOfInt .f64 y else 0
/-- The step itself, the zero vector for what is no step. -/
def cx (x y : Int) : Int := if stp x y = true then x else 0
def cy (x y : Int) : Int := if stp x y = true then y else 0

theorem cx_b (x y : Int) : -4194304 ≤ cx x y ∧ cx x y ≤ 4194304 := by
  unfold cx; split
  · rename_i h; have := stp_iff.1 h; omega
  · omega
theorem cy_b (x y : Int) : -4194304 ≤ cy x y ∧ cy x y ≤ 4194304 := by
  unfold cy; split
  · rename_i h; have := stp_iff.1 h; omega
  · omega
theorem w_zero : FZ.W 0 0 := ⟨false, 0, -1074, 1074, by decide +kernel, by omega, by rw [show FZ.sm false 0 = 0 from rfl, Int.zero_mul, Int.zero_mul]⟩
theorem w_ofR (x y : Int) : FZ.W (ofR x y) (cx x y) := by
  unfold ofR cx; split
  · rename_i h; have := stp_iff.1 h; exact FZ.W.of_int (by omega)
  · exact w_zero
theorem w_ofI (x y : Int) : FZ.W (ofI x y) (cy x y) := by
  unfold ofI cy; split
  · rename_i h; have := stp_iff.1 h; exact FZ.W.of_int (by omega)
  · exact w_zero

theorem ret_c {a b c d : Nat} (h : a = c) (k : b = d) : Ending.returned (.complex .f64 a b) = .returned (.complex .f64 c d) := by rw [h, k]

theorem of_any (x y : Int) (w : World) :
    Calls Try.prog 14 #[.agg #[.int .i64 x, .int .i64 y]] w fun e w' => e = .returned (.complex .f64 (ofR x y) (ofI x y)) ∧ Below w.heap.size w w' := by
  cases h : stp x y
  · have h1 : 0 = ofR x y := by unfold ofR; rw [h]; rfl
    have h2 : 0 = ofI x y := by unfold ofI; rw [h]; rfl
    have H1 := Lib.hid h1
    have H2 := Lib.hid h2
    clear h1 h2
    go_enter Try.func14, Try.ntmps14
    go_wp2_with (go_at_call 24; refine (may_any _ _ _).mono ?_; rintro e w1 ⟨rfl, hb⟩)
    go_ret
    exact ⟨ret_c H1.out H2.out, ((Below.refl _ _).alloc (Nat.le_refl _) _).trans (hb.mono (by simp))⟩
  · have h1 : floatOfInt .f64 x = ofR x y := by unfold ofR; rw [h]; rfl
    have h2 : floatOfInt .f64 y = ofI x y := by unfold ofI; rw [h]; rfl
    have H1 := Lib.hid h1
    have H2 := Lib.hid h2
    clear h1 h2
    go_enter Try.func14, Try.ntmps14
    go_wp2_with (go_at_call 24; refine (may_any _ _ _).mono ?_; rintro e w1 ⟨rfl, hb⟩; obtain ⟨hc, hf⟩ := bcell hb)
    go_ret
    exact ⟨ret_c H1.out H2.out, ((Below.refl _ _).alloc (Nat.le_refl _) _).trans (hb.mono (by simp))⟩

/-! ### Mul -/
def mulX (px py qx qy : Int) : Int := cx px py * cx qx qy - cy px py * cy qx qy
def mulY (px py qx qy : Int) : Int := cx px py * cy qx qy + cy px py * cx qx qy

theorem prod_b {a b : Int} (k : Int) (ha : -k ≤ a ∧ a ≤ k) (l : Int) (hb : -l ≤ b ∧ b ≤ l) : -(k * l) ≤ a * b ∧ a * b ≤ k * l := by
  have h1 : a.natAbs ≤ k.natAbs := by omega
  have h2 : b.natAbs ≤ l.natAbs := by omega
  have h3 : (a * b).natAbs ≤ (k * l).natAbs := by rw [Int.natAbs_mul, Int.natAbs_mul]; exact Nat.mul_le_mul h1 h2
  have h4 : 0 ≤ k * l := Int.mul_nonneg (by omega) (by omega)
  omega

theorem mulX_b (px py qx qy : Int) : -35184372088832 ≤ mulX px py qx qy ∧ mulX px py qx qy ≤ 35184372088832 := by
  have h1 := prod_b 4194304 (cx_b px py) 4194304 (cx_b qx qy)
  have h2 := prod_b 4194304 (cy_b px py) 4194304 (cy_b qx qy)
  unfold mulX; omega
theorem mulY_b (px py qx qy : Int) : -35184372088832 ≤ mulY px py qx qy ∧ mulY px py qx qy ≤ 35184372088832 := by
  have h1 := prod_b 4194304 (cx_b px py) 4194304 (cy_b qx qy)
  have h2 := prod_b 4194304 (cy_b px py) 4194304 (cx_b qx qy)
  unfold mulY; omega

theorem conv_int (b : Nat) (z : Int) (h : FZ.W b z) (hz : -9223372036854775808 ≤ z ∧ z ≤ 9223372036854775807) : ∀ w : World, (convert 29 2 (.float .f64 b)).run Try.prog w = .ok (.int .i64 z) w := fun w =>
  run_convert_float_int w _ _ _ _ _ _ (by rw [Try.underlying29]; rfl) Try.underlying2 (h.toInt hz)

set_option maxHeartbeats 1000000 in
theorem mul_any (px py qx qy : Int) (w : World) :
    Calls Try.prog 9 #[.agg #[.int .i64 px, .int .i64 py], .agg #[.int .i64 qx, .int .i64 qy]] w fun e w' => e = .returned (.agg #[.int .i64 (mulX px py qx qy), .int .i64 (mulY px py qx qy)]) ∧ Below w.heap.size w w' := by
  obtain ⟨p, q, hm, hp, hq⟩ := FZ.W.cmul (w_ofR px py) (w_ofI px py) (w_ofR qx qy) (w_ofI qx qy) 4194304 (cx_b px py) (cy_b px py) 4194304 (cx_b qx qy) (cy_b qx qy) (by decide)
  have hmul := fun w : World => run_complex_mul (P := Try.prog) w 32 _ _ _ _ _ _ hm
  have b1 := mulX_b px py qx qy
  have b2 := mulY_b px py qx qy
  have hc1 := conv_int p (mulX px py qx qy) hp (by omega)
  have hc2 := conv_int q (mulY px py qx qy) hq (by omega)
  clear hm hp hq b1 b2
  go_enter Try.func9, Try.ntmps9
  have hB : Below w.heap.size w w := Below.refl _ _
  go_wp2_with fail
  go_region_held3 (fun w' => w'.cell? ⟨w.heap.size, 0, none⟩ = some (.int .i64 px) ∧ w'.cell? ⟨w.heap.size, 1, none⟩ = some (.int .i64 py) ∧ w'.cell? ⟨w.heap.size + 1, 0, none⟩ = some (.int .i64 qx) ∧ w'.cell? ⟨w.heap.size + 1, 1, none⟩ = some (.int .i64 qy)) (go_keep)
    (first | (go_at_call 14; refine (of_any _ _ _).mono ?_; rintro e w1 ⟨rfl, hb⟩; have hz := hb.size; (try simp at hz); have hB' : Below w.heap.size w w1 := Below.trans (by repeat (first | exact Below.refl _ _ | exact hB | apply Below.drew | refine Below.alloc ?_ (by first | (simp; done) | (simp; omega) | omega) _ | refine Below.setCell ?_ (by first | (simp; done) | (simp; omega) | omega) _)) (hb.mono (by first | (simp; done) | (simp; omega) | omega)); have hB := hB'; clear hB'; have k0 : w1.cell? ⟨w.heap.size, 0, none⟩ = some (.int .i64 px) := (hb.cell (by first | (simp; done) | (simp; omega) | omega)).trans (by first | (go_keep; done) | (go_simp; done)); have k1 : w1.cell? ⟨w.heap.size, 1, none⟩ = some (.int .i64 py) := (hb.cell (by first | (simp; done) | (simp; omega) | omega)).trans (by first | (go_keep; done) | (go_simp; done)); have k2 : w1.cell? ⟨w.heap.size + 1, 0, none⟩ = some (.int .i64 qx) := (hb.cell (by first | (simp; done) | (simp; omega) | omega)).trans (by first | (go_keep; done) | (go_simp; done)); have k3 : w1.cell? ⟨w.heap.size + 1, 1, none⟩ = some (.int .i64 qy) := (hb.cell (by first | (simp; done) | (simp; omega) | omega)).trans (by first | (go_keep; done) | (go_simp; done)); have k4 : w1.cell? ⟨w.heap.size + 1 + 1, 0, none⟩ = some (.int .i64 0) := (hb.cell (by first | (simp; done) | (simp; omega) | omega)).trans (by first | (go_keep; done) | (go_simp; done)); have k5 : w1.cell? ⟨w.heap.size + 1 + 1, 1, none⟩ = some (.int .i64 0) := (hb.cell (by first | (simp; done) | (simp; omega) | omega)).trans (by first | (go_keep; done) | (go_simp; done)); have f0 : w1.frozen? ⟨w.heap.size + 1 + 1, 0, none⟩ = false := (hb.frozen (by first | (simp; done) | (simp; omega) | omega)).trans (by first | (go_keep; done) | (go_simp; done)); have f1 : w1.frozen? ⟨w.heap.size + 1 + 1, 1, none⟩ = false := (hb.frozen (by first | (simp; done) | (simp; omega) | omega)).trans (by first | (go_keep; done) | (go_simp; done))))
  go_wp2_with fail
  exact bodyPost_ret (v := .agg #[.int .i64 (mulX px py qx qy), .int .i64 (mulY px py qx qy)]) (by simp [results, Try.results9, go_sem, k4, k5]) rfl ⟨rfl, (by repeat (first | exact Below.refl _ _ | exact hB | apply Below.drew | refine Below.alloc ?_ (by first | (simp; done) | (simp; omega) | omega) _ | refine Below.setCell ?_ (by first | (simp; done) | (simp; omega) | omega) _))⟩
end Go.Proofs.Ytkjeebabcdnjkaa
