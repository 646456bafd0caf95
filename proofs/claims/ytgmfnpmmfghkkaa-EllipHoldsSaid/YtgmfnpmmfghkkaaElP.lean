/-
  Which points an ellipse holds: plain laws of positive semidefinite matrices of two rows.
-/
import Derived.Test.YtgmfnpmmfghkkaaEl
set_option linter.unusedVariables false
set_option linter.unusedSimpArgs false
namespace Go.Proofs.Ytgmfnpmmfghkkaa
open Go Go.RowKit Sx

theorem sq_nn (z : Int) : 0 ≤ z * z := by
  rcases Int.le_total 0 z with h | h
  · exact Int.mul_nonneg h h
  · exact Int.mul_nonneg_of_nonpos_of_nonpos h h
theorem sq_zero {z : Int} (h : z * z ≤ 0) : z = 0 := by
  have h1 := sq_nn z
  have h2 : z * z = 0 := by omega
  rcases Int.mul_eq_zero.1 h2 with h | h <;> exact h
theorem of_mul_nn {a q : Int} (ha : 0 < a) (h : 0 ≤ a * q) : 0 ≤ q := by
  refine Int.not_lt.1 fun hq => ?_
  have := Int.mul_neg_of_pos_of_neg ha hq
  omega
theorem form_of_psd {a b d : Int} (h : psdP a b d) (s t : Int) : 0 ≤ a * (s * s) + 2 * (b * (s * t)) + d * (t * t) := by
  obtain ⟨ha, hd, hdet⟩ := h
  by_cases h0 : a = 0
  · subst h0
    have hb : b = 0 := sq_zero (by omega)
    subst hb
    have := Int.mul_nonneg hd (sq_nn t)
    omega
  · refine of_mul_nn (a := a) (by omega) ?_
    have e : a * (a * (s * s) + 2 * (b * (s * t)) + d * (t * t)) = (a * s + b * t) * (a * s + b * t) + (a * d - b * b) * (t * t) := by grind
    rw [e]
    have h1 := sq_nn (a * s + b * t)
    have h2 := Int.mul_nonneg hdet (sq_nn t)
    omega
theorem psd_of_form {a b d : Int} (h : ∀ s t : Int, 0 ≤ a * (s * s) + 2 * (b * (s * t)) + d * (t * t)) : psdP a b d := by
  have ha : 0 ≤ a := by have := h 1 0; omega
  have hd : 0 ≤ d := by have := h 0 1; omega
  refine ⟨ha, hd, ?_⟩
  by_cases h0 : a = 0
  · subst h0
    have hb : b = 0 := by
      refine Decidable.byContradiction fun hb => ?_
      have h1 := h (-(b * (d + 1))) 1
      have e : 0 * (-(b * (d + 1)) * -(b * (d + 1))) + 2 * (b * (-(b * (d + 1)) * 1)) + d * (1 * 1) = d - 2 * ((b * b) * (d + 1)) := by grind
      rw [e] at h1
      have h2 : 1 ≤ b * b := by
        have := sq_nn b
        have : b * b ≠ 0 := fun h => hb (by rcases Int.mul_eq_zero.1 h with h | h <;> exact h)
        omega
      have h3 := Int.mul_le_mul_of_nonneg_right h2 (by omega : 0 ≤ d + 1)
      omega
    subst hb; omega
  · refine of_mul_nn (a := a) (by omega) ?_
    have := h b (-a)
    have e : a * (b * b) + 2 * (b * (b * -a)) + d * (-a * -a) = a * (a * d - b * b) := by grind
    rwa [e] at this
theorem holds_iff {a b d x y : Int} : holdsP a b d x y ↔ ∀ s t : Int, (x * s + y * t) * (x * s + y * t) ≤ a * (s * s) + 2 * (b * (s * t)) + d * (t * t) := by
  have e : ∀ s t : Int, (a - x * x) * (s * s) + 2 * ((b - x * y) * (s * t)) + (d - y * y) * (t * t) = (a * (s * s) + 2 * (b * (s * t)) + d * (t * t)) - (x * s + y * t) * (x * s + y * t) := fun s t => by grind
  constructor
  · intro h s t
    have := form_of_psd h s t
    rw [e] at this
    omega
  · intro h
    refine psd_of_form fun s t => ?_
    rw [e]
    have := h s t
    omega
theorem holds_opp {a b d x y : Int} (h : holdsP a b d x y) : holdsP a b d (-x) (-y) := by
  rw [holds_iff] at h ⊢
  intro s t
  have e : (-x * s + -y * t) * (-x * s + -y * t) = (x * s + y * t) * (x * s + y * t) := by grind
  rw [e]; exact h s t
theorem holds_mid {a b d x y u v z w : Int} (h : holdsP a b d x y) (k : holdsP a b d u v) (h1 : 2 * z = x + u) (h2 : 2 * w = y + v) : holdsP a b d z w := by
  rw [holds_iff] at h k ⊢
  intro s t
  have h3 := h s t
  have h4 := k s t
  have e : 4 * ((z * s + w * t) * (z * s + w * t)) = ((x * s + y * t) + (u * s + v * t)) * ((x * s + y * t) + (u * s + v * t)) := by
    have : (x * s + y * t) + (u * s + v * t) = 2 * (z * s + w * t) := by
      have e1 : (x * s + y * t) + (u * s + v * t) = (x + u) * s + (y + v) * t := by grind
      rw [e1, ← h1, ← h2]; grind
    rw [this]; grind
  have e2 : ((x * s + y * t) + (u * s + v * t)) * ((x * s + y * t) + (u * s + v * t)) + ((x * s + y * t) - (u * s + v * t)) * ((x * s + y * t) - (u * s + v * t)) = 2 * ((x * s + y * t) * (x * s + y * t)) + 2 * ((u * s + v * t) * (u * s + v * t)) := by grind
  have h5 := sq_nn ((x * s + y * t) - (u * s + v * t))
  omega
theorem holds_zero {a b d : Int} (h : psdP a b d) : holdsP a b d 0 0 := by
  unfold holdsP; simpa using h
theorem holds_wider {a b d p q r x y : Int} (h : psdP (p - a) (q - b) (r - d)) (k : holdsP a b d x y) : holdsP p q r x y := by
  rw [holds_iff] at k ⊢
  intro s t
  have h1 := form_of_psd h s t
  have h2 := k s t
  have e : (p - a) * (s * s) + 2 * ((q - b) * (s * t)) + (r - d) * (t * t) = (p * (s * s) + 2 * (q * (s * t)) + r * (t * t)) - (a * (s * s) + 2 * (b * (s * t)) + d * (t * t)) := by grind
  rw [e] at h1
  omega
theorem abs_of_sq {z m : Int} (hm : 0 ≤ m) (h : z * z ≤ m * m) : z ≤ m ∧ -z ≤ m := by
  constructor
  · refine Int.not_lt.1 fun hz => ?_
    have h1 := Int.mul_le_mul_of_nonneg_left (Int.le_of_lt hz) hm
    have h2 := Int.mul_lt_mul_of_pos_right hz (by omega : 0 < z)
    omega
  · refine Int.not_lt.1 fun hz => ?_
    have h1 := Int.mul_le_mul_of_nonneg_left (Int.le_of_lt hz) hm
    have h3 := Int.mul_lt_mul_of_pos_right hz (by omega : 0 < -z)
    have h2 : -z * -z = z * z := by grind
    omega
theorem ball_iff {r x y : Int} (hr : 1 ≤ r) : holdsP (r * r) 0 (r * r) x y ↔ x * x + y * y ≤ r * r := by
  have hx := sq_nn x
  have hy := sq_nn y
  have hrr : 0 < r * r := Int.mul_pos (by omega) (by omega)
  have e : (r * r - x * x) * (r * r - y * y) - (0 - x * y) * (0 - x * y) = (r * r) * (r * r - (x * x + y * y)) := by grind
  unfold holdsP psdP
  rw [e]
  constructor
  · intro ⟨_, _, h⟩
    have := of_mul_nn hrr h
    omega
  · intro h
    exact ⟨by omega, by omega, Int.mul_nonneg (by omega) (by omega)⟩
theorem box_corner {p q x y : Int} (hx : x * x = p * p) (hy : y * y = q * q) : holdsP (2 * p * p) 0 (2 * q * q) x y := by
  have e1 : 2 * p * p = 2 * (p * p) := by grind
  have e2 : 2 * q * q = 2 * (q * q) := by grind
  have h1 := sq_nn p
  have h2 := sq_nn q
  unfold holdsP psdP
  rw [e1, e2, hx, hy]
  have e : (2 * (p * p) - p * p) * (2 * (q * q) - q * q) - (0 - x * y) * (0 - x * y) = (p * p) * (q * q) - (x * x) * (y * y) := by grind
  rw [e, hx, hy]
  omega
theorem cInz (cx cy a b d x y x' y' : Int) (h : List (Option Chunk)) (e1 : x' = x) (e2 : y' = y) : CallOK Try.prog 8 [.agg #[.int .i64 cx, .int .i64 cy, .int .i64 a, .int .i64 b, .int .i64 d], .agg #[.int .i64 x', .int .i64 y']] h (.bool (decide (inP cx cy a b d x y))) [] [] := by
  subst e1 e2; exact cIn4 cx cy a b d x' y' h
theorem may_psd {cx cy a b d : Int} (h : mayP cx cy a b d) : psdP a b d := by
  unfold mayP at h; exact ⟨by omega, by omega, by omega⟩
/-- How far from the centre a point of an ellipse may be. -/
theorem in_near {cx cy a b d x y : Int} (h : inP cx cy a b d x y) : ((x - cx) * (x - cx) ≤ a ∧ (y - cy) * (y - cy) ≤ d) ∧ ((-8388608 ≤ x - cx ∧ x - cx ≤ 8388608) ∧ (-8388608 ≤ y - cy ∧ y - cy ≤ 8388608)) ∧ (-4194304 ≤ cx ∧ cx ≤ 4194304) ∧ (-4194304 ≤ cy ∧ cy ≤ 4194304) := by
  obtain ⟨hm, hw, h1, h2, _⟩ := h
  unfold mayP withinP at hm
  have a1 := abs_of_sq (z := x - cx) (m := 8388608) (by decide) (by omega)
  have a2 := abs_of_sq (z := y - cy) (m := 8388608) (by decide) (by omega)
  exact ⟨⟨by omega, by omega⟩, ⟨by omega, by omega⟩, by omega, by omega⟩
theorem in_opp {cx cy a b d x y : Int} (h : inP cx cy a b d x y) : inP cx cy a b d (2 * cx - x) (2 * cy - y) := by
  obtain ⟨_, n2, n3⟩ := in_near h
  refine ⟨h.1, by unfold withinP; omega, ?_⟩
  rw [show 2 * cx - x - cx = -(x - cx) from by omega, show 2 * cy - y - cy = -(y - cy) from by omega]
  exact holds_opp h.2.2
theorem in_mid {cx cy a b d x y u v z w : Int} (h : inP cx cy a b d x y) (k : inP cx cy a b d u v) (h1 : 2 * z = x + u) (h2 : 2 * w = y + v) : inP cx cy a b d z w := by
  obtain ⟨_, n2, n3⟩ := in_near h
  obtain ⟨_, m2, m3⟩ := in_near k
  exact ⟨h.1, by unfold withinP; omega, holds_mid h.2.2 k.2.2 (by omega) (by omega)⟩
set_option maxRecDepth 100000 in
theorem eq_ellipse (x y : Operand) (a b c d e p q r s t : Int) : BinIs Try.prog .eql 27 x y (.agg #[.int .i64 a, .int .i64 b, .int .i64 c, .int .i64 d, .int .i64 e]) (.agg #[.int .i64 p, .int .i64 q, .int .i64 r, .int .i64 s, .int .i64 t]) (.bool (a == p && (b == q && (c == r && (d == s && e == t))))) :=
  ⟨rfl, rfl, rfl, fun w => by go_simp; by_cases h1 : a = p <;> by_cases h2 : b = q <;> by_cases h3 : c = r <;> by_cases h4 : d = s <;> by_cases h5 : e = t <;> simp [h1, h2, h3, h4, h5]⟩
end Go.Proofs.Ytgmfnpmmfghkkaa
