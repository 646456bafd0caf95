
/-
  The root of a number, down; Newton's steps come to it from above.
-/
import Derived.Test.YtbepibdjlajppaaDoorWide3
set_option linter.unusedVariables false
namespace Go.Proofs.YtbepibdjlajppaaDoor

def isqTo (v : Nat) : Nat → Nat
  | 0 => 0
  | n + 1 => if (n + 1) * (n + 1) ≤ v then n + 1 else isqTo v n
/-- The root, down. -/
def isq (v : Nat) : Nat := isqTo v v
theorem isqTo_le (v : Nat) : ∀ n, isqTo v n * isqTo v n ≤ v
  | 0 => Nat.zero_le _
  | n + 1 => by
    rw [isqTo]; split
    · assumption
    · exact isqTo_le v n
theorem isqTo_lt (v : Nat) : ∀ n, v < (n + 1) * (n + 1) → v < (isqTo v n + 1) * (isqTo v n + 1)
  | 0, h => h
  | n + 1, h => by
    rw [isqTo]; split
    · exact h
    · rename_i hn; exact isqTo_lt v n (by omega)
theorem isq_le (v : Nat) : isq v * isq v ≤ v := isqTo_le v v
theorem isq_lt (v : Nat) : v < (isq v + 1) * (isq v + 1) := isqTo_lt v v (by
  have : v + 1 ≤ (v + 1) * (v + 1) := Nat.le_mul_of_pos_left _ (by omega)
  omega)
theorem sq_mono {a b : Nat} (h : a * a < b * b) : a < b := by
  rcases Nat.lt_or_ge a b with h1 | h1
  · exact h1
  · have := Nat.mul_le_mul h1 h1; omega
theorem isq_ge {v x : Nat} (h : x * x ≤ v) : x ≤ isq v := by
  have := isq_lt v
  have := sq_mono (Nat.lt_of_le_of_lt h this)
  omega
theorem isq_eq {v r : Nat} (h1 : r * r ≤ v) (h2 : v < (r + 1) * (r + 1)) : isq v = r := by
  have a := isq_ge h1
  have b := sq_mono (Nat.lt_of_le_of_lt (isq_le v) h2)
  omega
theorem isq_pos {v : Nat} (h : 0 < v) : 0 < isq v := isq_ge (x := 1) (by omega)
theorem isq_below {v n : Nat} (h : v < n * n) : isq v < n := sq_mono (Nat.lt_of_le_of_lt (isq_le v) h)

/-- A step of Newton's does not go below the root. -/
theorem newton_ge (v x : Nat) (hx : 0 < x) : isq v ≤ (x + v / x) / 2 := by
  have hr := isq_le v
  rcases Nat.lt_or_ge ((x + v / x) / 2) (isq v) with h | h
  · exfalso
    generalize isq v = r at *
    have hq := Nat.lt_div_mul_add (a := v) hx
    generalize hqq : v / x = q at *
    have h1 : x + q + 1 ≤ 2 * r := by omega
    obtain ⟨d, hd⟩ : ∃ d, q + 1 + x + d = 2 * r := ⟨2 * r - (x + q + 1), by omega⟩
    -- v < (q + 1) * x
    have h2 : v < (q + 1) * x := by rw [Nat.add_mul]; omega
    rcases Nat.le_total r x with hxr | hxr
    · obtain ⟨e, rfl⟩ : ∃ e, x = r + e := ⟨x - r, by omega⟩
      have h3 : q + 1 + e ≤ r := by omega
      have h4 : (q + 1) * (r + e) ≤ r * r := by
        obtain ⟨f, rfl⟩ : ∃ f, r = q + 1 + e + f := ⟨r - (q + 1 + e), by omega⟩
        simp only [Nat.add_mul, Nat.mul_add]
        have c1 : q * e = e * q := Nat.mul_comm _ _
        have c2 : q * f = f * q := Nat.mul_comm _ _
        have c3 : e * f = f * e := Nat.mul_comm _ _
        generalize q * q = t1 at *
        generalize e * q = t2 at *
        generalize f * q = t3 at *
        generalize e * e = t4 at *
        generalize f * e = t5 at *
        generalize f * f = t6 at *
        omega
      omega
    · obtain ⟨e, rfl⟩ : ∃ e, r = x + e := ⟨r - x, by omega⟩
      have h3 : q + 1 ≤ x + 2 * e := by omega
      have h4 : (q + 1) * x ≤ (x + 2 * e) * x := Nat.mul_le_mul_right _ h3
      have h5 : (x + 2 * e) * x ≤ (x + e) * (x + e) := by
        simp only [Nat.add_mul, Nat.mul_add, Nat.mul_assoc]
        have c1 : e * x = x * e := Nat.mul_comm _ _
        generalize x * x = t1 at *
        generalize x * e = t2 at *
        generalize e * e = t3 at *
        omega
      omega
  · exact h
theorem newton_end (v x : Nat) (hx : 0 < x) (h0 : isq v ≤ x) (h : x ≤ (x + v / x) / 2) : x = isq v := by
  have h1 : x ≤ v / x := by omega
  have h2 : x * x ≤ v := (Nat.le_div_iff_mul_le hx).1 h1
  have := isq_ge h2
  omega
theorem newton_start (v : Nat) (hv : v < Bs ^ 16) : isq v < 2 ^ ((bl v + 1) / 2) := by
  apply isq_below
  refine Nat.lt_of_lt_of_le (bl_spec v hv).1 ?_
  rw [← Nat.pow_add]
  exact Nat.pow_le_pow_right (by decide) (by omega)
end Go.Proofs.YtbepibdjlajppaaDoor
