/-
  Plain laws of binary floating point: operations on words that stand for whole numbers below 2^53 are exact. No program in sight.
-/
import Derived.Laws.ComplexArith
set_option linter.unusedVariables false
namespace Go.Proofs.Ytkjeebabcdnjkaa.FZ
open Ieee

def sm (s : Bool) (m : Nat) : Int := if s then -(m : Int) else m

theorem sm_natAbs (s : Bool) (m : Nat) : (sm s m).natAbs = m := by cases s <;> simp [sm]
theorem sm_xor (s t : Bool) (m n : Nat) : sm (s ^^ t) (m * n) = sm s m * sm t n := by cases s <;> cases t <;> simp [sm, Int.neg_mul, Int.mul_neg]
theorem sm_not (s : Bool) (m : Nat) : sm (!s) m = - sm s m := by cases s <;> simp [sm]

theorem signed_eq (s : Bool) (m u : Nat) : Ieee.signed s m u = sm s m * 2 ^ u := by
  unfold Ieee.signed sm
  rw [Nat.shiftLeft_eq]
  cases s <;> simp [Int.natCast_mul, Int.natCast_pow, Int.neg_mul]

/-- The datum stands for the whole number z. -/
def IsZ (d : Datum) (z : Int) : Prop := ∃ (s : Bool) (m : Nat) (e : Int) (K : Nat), d = .number s m e ∧ 0 ≤ e + K ∧ sm s m * 2 ^ (e + K).toNat = z * 2 ^ K

theorem two_pow_pos (n : Nat) : (0 : Int) < 2 ^ n := by
  have : 0 < 2 ^ n := Nat.two_pow_pos n
  have h : ((2 ^ n : Nat) : Int) = (2 : Int) ^ n := by simp
  omega

theorem up {s : Bool} {m : Nat} {e z : Int} {K K' : Nat} (h0 : 0 ≤ e + K) (h : sm s m * 2 ^ (e + K).toNat = z * 2 ^ K) (hK : K ≤ K') : sm s m * 2 ^ (e + K').toNat = z * 2 ^ K' := by
  have e1 : (e + (K' : Int)).toNat = (e + (K : Int)).toNat + (K' - K) := by omega
  have e2 : K' = K + (K' - K) := by omega
  rw [e1, Int.pow_add, ← Int.mul_assoc, h, Int.mul_assoc, ← Int.pow_add, ← e2]

theorem IsZ.opposite {d : Datum} {z : Int} (h : IsZ d z) : IsZ d.opposite (-z) := by
  obtain ⟨s, m, e, K, rfl, h0, h⟩ := h
  exact ⟨!s, m, e, K, rfl, h0, by rw [sm_not, Int.neg_mul, h, Int.neg_mul]⟩

theorem IsZ.product {a b : Datum} {x y : Int} (ha : IsZ a x) (hb : IsZ b y) : ∃ d, a.product b = some d ∧ IsZ d (x * y) := by
  obtain ⟨s, m, i, K, rfl, h0, h⟩ := ha
  obtain ⟨t, n, j, L, rfl, k0, k⟩ := hb
  refine ⟨_, rfl, s ^^ t, m * n, i + j, K + L, rfl, by omega, ?_⟩
  have e1 : (i + j + ((K + L : Nat) : Int)).toNat = (i + K).toNat + (j + L).toNat := by omega
  rw [e1, Int.pow_add, Int.pow_add, sm_xor]
  calc sm s m * sm t n * (2 ^ (i + (K : Int)).toNat * 2 ^ (j + (L : Int)).toNat) = (sm s m * 2 ^ (i + (K : Int)).toNat) * (sm t n * 2 ^ (j + (L : Int)).toNat) := by
        rw [Int.mul_assoc, Int.mul_assoc, Int.mul_left_comm (sm t n)]
    _ = (x * 2 ^ K) * (y * 2 ^ L) := by rw [h, k]
    _ = x * y * (2 ^ K * 2 ^ L) := by rw [Int.mul_assoc, Int.mul_assoc, Int.mul_left_comm (2 ^ K)]

theorem IsZ.sum {a b : Datum} {x y : Int} (ha : IsZ a x) (hb : IsZ b y) : ∃ d, a.sum b = some d ∧ IsZ d (x + y) := by
  obtain ⟨s, m, i, K, rfl, h0, h⟩ := ha
  obtain ⟨t, n, j, L, rfl, k0, k⟩ := hb
  have h' := up h0 h (Nat.le_max_left K L)
  have k' := up k0 k (Nat.le_max_right K L)
  generalize hM : max K L = M at h' k'
  have hKM : K ≤ M := by omega
  have hLM : L ≤ M := by omega
  refine ⟨_, rfl, _, _, min i j, M, rfl, by omega, ?_⟩
  rw [signed_eq, signed_eq]
  have e1 : (i + (M : Int)).toNat = (i - min i j).toNat + (min i j + M).toNat := by omega
  have e2 : (j + (M : Int)).toNat = (j - min i j).toNat + (min i j + M).toNat := by omega
  rw [e1, Int.pow_add, ← Int.mul_assoc] at h'
  rw [e2, Int.pow_add, ← Int.mul_assoc] at k'
  generalize sm s m * 2 ^ (i - min i j).toNat = u at *
  generalize sm t n * 2 ^ (j - min i j).toNat = v at *
  have hs : ∀ c : Bool, sm (if u + v = 0 then c else decide (u + v < 0)) (u + v).natAbs = u + v := by
    intro c
    by_cases h : u + v = 0
    · rw [if_pos h, h]; cases c <;> rfl
    · rw [if_neg h]
      unfold sm
      by_cases h2 : u + v < 0
      · simp only [h2, decide_true, if_true]; omega
      · simp only [h2, decide_false]; simp; omega
  rw [hs, Int.add_mul, h', k', Int.add_mul]

/-! ### Writing a whole number -/

theorem log2_mul_pow (m a : Nat) (hm : m ≠ 0) : (m * 2 ^ a).log2 = m.log2 + a := by
  have hp : 0 < 2 ^ a := Nat.two_pow_pos a
  have hne : m * 2 ^ a ≠ 0 := Nat.mul_ne_zero hm (by omega)
  have h1 : 2 ^ m.log2 ≤ m := (Nat.le_log2 hm).1 (Nat.le_refl _)
  have h2 : m < 2 ^ (m.log2 + 1) := (Nat.log2_lt hm).1 (Nat.lt_succ_self _)
  apply Nat.le_antisymm
  · have : m * 2 ^ a < 2 ^ (m.log2 + a + 1) := by
      rw [show m.log2 + a + 1 = (m.log2 + 1) + a from by omega, Nat.pow_add]
      exact Nat.mul_lt_mul_of_pos_right h2 hp
    have := (Nat.log2_lt hne).2 this
    omega
  · rw [Nat.le_log2 hne, Nat.pow_add]
    exact Nat.mul_le_mul_right _ h1

theorem cut_exact (neg : Bool) (q d : Nat) (hq : q ≠ 0) : Toward.even.cut neg (q * 2 ^ d) d = q := by
  have hp : 0 < 2 ^ d := Nat.two_pow_pos d
  have hl := log2_mul_pow q d hq
  unfold Toward.cut
  simp only
  rw [hl, show min d (q.log2 + d + 2) = d from by omega, Nat.shiftLeft_eq, Nat.one_mul, Nat.mul_div_cancel _ hp, Nat.mul_mod_left]
  have h1 : decide (2 ^ d < 2 * 0) = false := by simp
  have h2 : (2 ^ d == 2 * 0) = false := by simp
  rw [h1, h2]
  simp

theorem cut_zero_exact (neg : Bool) (q d : Nat) : Toward.zero.cut neg (q * 2 ^ d) d = q := by
  have hp : 0 < 2 ^ d := Nat.two_pow_pos d
  unfold Toward.cut
  simp only
  rcases Nat.eq_zero_or_pos q with h0 | h0
  · subst h0; simp
  · have hl := log2_mul_pow q d (by omega)
    rw [hl, show min d (q.log2 + d + 2) = d from by omega, Nat.shiftLeft_eq, Nat.one_mul, Nat.mul_div_cancel _ hp]
    simp

theorem kept_eq (mag : Nat) (place : Int) (N : Nat) (hN : 0 < N) (hN2 : N < 9007199254740992) (K : Nat) (hK : 0 ≤ place + K) (h : mag * 2 ^ (place + K).toNat = N * 2 ^ K) :
    mag ≠ 0 ∧ place + mag.log2 = N.log2 ∧ N.log2 ≤ 52 ∧ ∀ neg, Toward.even.cut neg (mag <<< (place - ((N.log2 : Int) - 52)).toNat) (((N.log2 : Int) - 52) - place).toNat = N * 2 ^ (52 - N.log2) := by
  have hpK : 0 < 2 ^ K := Nat.two_pow_pos K
  have hm : mag ≠ 0 := by
    rintro rfl
    rw [Nat.zero_mul] at h
    have := Nat.mul_pos hN hpK
    omega
  have hlog : mag.log2 + (place + K).toNat = N.log2 + K := by
    rw [← log2_mul_pow mag _ hm, h, log2_mul_pow N K (by omega)]
  have hL : N.log2 ≤ 52 := by
    have := (Nat.log2_lt (n := N) (k := 53) (by omega)).2 (by omega)
    omega
  refine ⟨hm, by omega, hL, fun neg => ?_⟩
  have hq : N * 2 ^ (52 - N.log2) ≠ 0 := Nat.mul_ne_zero (by omega) (by have := Nat.two_pow_pos (52 - N.log2); omega)
  by_cases hp : ((N.log2 : Int) - 52) ≤ place
  · have hd : (((N.log2 : Int) - 52) - place).toNat = 0 := by omega
    have hmag : mag <<< (place - ((N.log2 : Int) - 52)).toNat = N * 2 ^ (52 - N.log2) := by
      rw [Nat.shiftLeft_eq]
      have e : (place - ((N.log2 : Int) - 52)).toNat + K = (place + K).toNat + (52 - N.log2) := by omega
      apply Nat.eq_of_mul_eq_mul_right hpK
      rw [Nat.mul_assoc, ← Nat.pow_add, e, Nat.pow_add, ← Nat.mul_assoc, h, Nat.mul_assoc, Nat.mul_assoc, Nat.mul_comm (2 ^ K)]
    rw [hd, hmag]
    have := cut_exact neg (N * 2 ^ (52 - N.log2)) 0 hq
    simpa using this
  · have hd : (place - ((N.log2 : Int) - 52)).toNat = 0 := by omega
    rw [hd, Nat.shiftLeft_zero]
    have hmag : mag = N * 2 ^ (52 - N.log2) * 2 ^ (((N.log2 : Int) - 52) - place).toNat := by
      have hP : 0 < 2 ^ (place + K).toNat := Nat.two_pow_pos _
      apply Nat.eq_of_mul_eq_mul_right hP
      rw [h, Nat.mul_assoc, Nat.mul_assoc, ← Nat.pow_add, ← Nat.pow_add]
      congr 2
      omega
    rw [hmag]
    exact cut_exact neg _ _ hq

theorem leastPlace_eq : double.leastPlace = -1074 := by decide
theorem binade_eq : double.binade = 4503599627370496 := by decide
theorem infRung_eq : double.infRung = 9218868437227405312 := by decide
theorem signWeight_eq : double.signWeight = 9223372036854775808 := by decide

theorem nearest_exact (neg : Bool) (mag : Nat) (place : Int) (N : Nat) (hN : 0 < N) (hN2 : N < 9007199254740992) (K : Nat) (hK : 0 ≤ place + K) (h : mag * 2 ^ (place + K).toNat = N * 2 ^ K) :
    double.read (double.nearest neg mag place) = .number neg (N * 2 ^ (52 - N.log2)) ((N.log2 : Int) - 52) := by
  obtain ⟨hm, hlog, hL, hcut⟩ := kept_eq mag place N hN hN2 K hK h
  have hlast : max (place + (mag.log2 : Int) - (double.fractionBits : Int)) double.leastPlace = (N.log2 : Int) - 52 := by
    rw [leastPlace_eq, show (double.fractionBits : Int) = 52 from rfl]
    omega
  have hk1 : 4503599627370496 ≤ N * 2 ^ (52 - N.log2) := by
    have h1 : 2 ^ N.log2 ≤ N := (Nat.le_log2 (by omega)).1 (Nat.le_refl _)
    calc 4503599627370496 = 2 ^ N.log2 * 2 ^ (52 - N.log2) := by rw [← Nat.pow_add, show N.log2 + (52 - N.log2) = 52 from by omega]
      _ ≤ N * 2 ^ (52 - N.log2) := Nat.mul_le_mul_right _ h1
  have hk2 : N * 2 ^ (52 - N.log2) < 9007199254740992 := by
    have h2 : N < 2 ^ (N.log2 + 1) := (Nat.log2_lt (by omega)).1 (Nat.lt_succ_self _)
    calc N * 2 ^ (52 - N.log2) < 2 ^ (N.log2 + 1) * 2 ^ (52 - N.log2) := Nat.mul_lt_mul_of_pos_right h2 (Nat.two_pow_pos _)
      _ = 9007199254740992 := by rw [← Nat.pow_add, show N.log2 + 1 + (52 - N.log2) = 53 from by omega]
  have hn : double.nearest neg mag place = double.word neg ((N.log2 + 1022) * 4503599627370496 + N * 2 ^ (52 - N.log2)) := by
    unfold Format.nearest
    rw [if_neg hm]
    simp only
    rw [hlast, hcut neg, leastPlace_eq, binade_eq, infRung_eq, show ((N.log2 : Int) - 52 - -1074).toNat = N.log2 + 1022 from by omega]
    congr 1
    omega
  rw [hn]
  generalize N * 2 ^ (52 - N.log2) = k at *
  generalize N.log2 = L at *
  have hw : double.word neg ((L + 1022) * 4503599627370496 + k) / 9223372036854775808 % 2 = (if neg then 1 else 0) ∧ double.word neg ((L + 1022) * 4503599627370496 + k) % 9223372036854775808 = (L + 1022) * 4503599627370496 + k := by
    unfold Format.word
    rw [signWeight_eq]
    cases neg <;> simp <;> omega
  unfold Format.read
  simp only
  rw [signWeight_eq, hw.1, hw.2, binade_eq, infRung_eq, leastPlace_eq]
  rw [if_neg (by omega), if_pos (by omega)]
  have e1 : 4503599627370496 + ((L + 1022) * 4503599627370496 + k) % 4503599627370496 = k := by omega
  have e2 : (-1074 : Int) + ((((L + 1022) * 4503599627370496 + k) / 4503599627370496 - 1 : Nat) : Int) = (L : Int) - 52 := by omega
  rw [e1, e2]
  cases neg <;> rfl

theorem nearest_zero (neg : Bool) (place : Int) : double.read (double.nearest neg 0 place) = .number neg 0 (-1074) := by
  unfold Format.nearest
  rw [if_pos rfl]
  cases neg <;> rfl

/-- What is written of a whole number below 2^53 reads as it. -/
theorem IsZ.write {d : Datum} {z : Int} (h : IsZ d z) (hz : -9007199254740992 < z ∧ z < 9007199254740992) : IsZ (double.read (double.write d)) z := by
  obtain ⟨s, m, e, K, rfl, h0, h⟩ := h
  show IsZ (double.read (double.nearest s m e)) z
  have hab : m * 2 ^ (e + K).toNat = z.natAbs * 2 ^ K := by
    have := congrArg Int.natAbs h
    rw [Int.natAbs_mul, Int.natAbs_mul, sm_natAbs] at this
    have e1 : ∀ n : Nat, ((2 : Int) ^ n).natAbs = 2 ^ n := fun n => by rw [Int.natAbs_pow]; rfl
    rwa [e1, e1] at this
  by_cases hz0 : z = 0
  · subst hz0
    have hm : m = 0 := by
      have hp : 0 < 2 ^ (e + (K : Int)).toNat := Nat.two_pow_pos _
      rw [show (0 : Int).natAbs = 0 from rfl, Nat.zero_mul] at hab
      rcases Nat.mul_eq_zero.1 hab with h1 | h1
      · exact h1
      · omega
    subst hm
    rw [nearest_zero]
    exact ⟨s, 0, -1074, 1074, rfl, by omega, by rw [show sm s 0 = 0 from by cases s <;> rfl, Int.zero_mul, Int.zero_mul]⟩
  · have hN : 0 < z.natAbs := by omega
    rw [nearest_exact s m e z.natAbs hN (by omega) K h0 hab]
    have hL : z.natAbs.log2 ≤ 52 := (kept_eq m e z.natAbs hN (by omega) K h0 hab).2.2.1
    refine ⟨s, _, _, 52, rfl, by omega, ?_⟩
    have hsg : sm s z.natAbs = z := by
      have hp := two_pow_pos (e + (K : Int)).toNat
      have hq := two_pow_pos K
      cases s
      · have : 0 ≤ z := by
          rcases Int.lt_or_le z 0 with hlt | hge
          · exfalso
            have h1 : z * 2 ^ K < 0 := Int.mul_neg_of_neg_of_pos hlt hq
            have h2 : 0 ≤ sm false m * 2 ^ (e + (K : Int)).toNat := Int.mul_nonneg (by simp [sm]) (Int.le_of_lt hp)
            omega
          · exact hge
        simp [sm]; omega
      · have : z ≤ 0 := by
          rcases Int.lt_or_le 0 z with hlt | hge
          · exfalso
            have h1 : 0 < z * 2 ^ K := Int.mul_pos hlt hq
            have h2 : 0 ≤ -(sm true m * 2 ^ (e + (K : Int)).toNat) := by
              rw [← Int.neg_mul]
              exact Int.mul_nonneg (by simp [sm]) (Int.le_of_lt hp)
            omega
          · exact hge
        simp [sm]; omega
    have e3 : ((z.natAbs.log2 : Int) - 52 + ((52 : Nat) : Int)).toNat = z.natAbs.log2 := by omega
    have hsm : ∀ q : Nat, sm s (z.natAbs * q) = sm s z.natAbs * q := fun q => by cases s <;> simp [sm, Int.neg_mul]
    rw [e3, hsm, hsg, Int.mul_assoc]
    congr 1
    rw [Int.natCast_pow, show ((2 : Nat) : Int) = 2 from rfl, ← Int.pow_add]
    congr 1
    omega

/-! ### The operations on words -/

/-- The word b stands for the whole number z. -/
def W (b : Nat) (z : Int) : Prop := IsZ (double.read b) z

theorem W.mul {a b : Nat} {x y : Int} (ha : W a x) (hb : W b y) (h : -9007199254740992 < x * y ∧ x * y < 9007199254740992) : ∃ r, floatBits .mul .f64 a b = some r ∧ W r (x * y) := by
  obtain ⟨d, hd, hz⟩ := IsZ.product ha hb
  refine ⟨double.write d, ?_, hz.write h⟩
  show ((double.read a).product (double.read b)).map double.write = _
  rw [hd]; rfl
theorem W.add {a b : Nat} {x y : Int} (ha : W a x) (hb : W b y) (h : -9007199254740992 < x + y ∧ x + y < 9007199254740992) : ∃ r, floatBits .add .f64 a b = some r ∧ W r (x + y) := by
  obtain ⟨d, hd, hz⟩ := IsZ.sum ha hb
  refine ⟨double.write d, ?_, hz.write h⟩
  show ((double.read a).sum (double.read b)).map double.write = _
  rw [hd]; rfl
theorem W.sub {a b : Nat} {x y : Int} (ha : W a x) (hb : W b y) (h : -9007199254740992 < x - y ∧ x - y < 9007199254740992) : ∃ r, floatBits .sub .f64 a b = some r ∧ W r (x - y) := by
  obtain ⟨d, hd, hz⟩ := IsZ.sum ha hb.opposite
  rw [← Int.sub_eq_add_neg] at hz
  refine ⟨double.write d, ?_, hz.write h⟩
  show ((double.read a).sum (double.read b).opposite).map double.write = _
  rw [hd]; rfl

theorem W.of_int {z : Int} (h : -9007199254740992 < z ∧ z < 9007199254740992) : W (floatOfInt .f64 z) z := by
  have hz : IsZ (.number (decide (z < 0)) z.natAbs 0) z := by
    refine ⟨_, _, 0, 0, rfl, by simp, ?_⟩
    simp [sm]
    by_cases h : z < 0
    · simp [h]; omega
    · simp [h]; omega
  exact hz.write h

/-- The product of two complex numbers whose parts are whole. -/
theorem W.cmul {a b c d : Nat} {x y u v : Int} (ha : W a x) (hb : W b y) (hc : W c u) (hd : W d v) (k : Int) (hx : -k ≤ x ∧ x ≤ k) (hy : -k ≤ y ∧ y ≤ k) (l : Int) (hu : -l ≤ u ∧ u ≤ l) (hv : -l ≤ v ∧ v ≤ l) (hkl : k * l ≤ 4503599627370495) :
    ∃ p q, cMulBits a b c d = some (p, q) ∧ W p (x * u - y * v) ∧ W q (x * v + y * u) := by
  have hb' : ∀ s t : Int, (-k ≤ s ∧ s ≤ k) → (-l ≤ t ∧ t ≤ l) → -4503599627370495 ≤ s * t ∧ s * t ≤ 4503599627370495 := by
    intro s t hs ht
    have h1 : s.natAbs ≤ k.natAbs := by omega
    have h2 : t.natAbs ≤ l.natAbs := by omega
    have h3 : (s * t).natAbs ≤ (k * l).natAbs := by rw [Int.natAbs_mul, Int.natAbs_mul]; exact Nat.mul_le_mul h1 h2
    have h4 : 0 ≤ k * l := Int.mul_nonneg (by omega) (by omega)
    omega
  have m1 := hb' x u hx hu
  have m2 := hb' y v hy hv
  have m3 := hb' x v hx hv
  have m4 := hb' y u hy hu
  obtain ⟨r1, f1, w1⟩ := W.mul ha hc (by omega)
  obtain ⟨r2, f2, w2⟩ := W.mul hb hd (by omega)
  obtain ⟨r3, f3, w3⟩ := W.sub w1 w2 (by omega)
  obtain ⟨r4, f4, w4⟩ := W.mul ha hd (by omega)
  obtain ⟨r5, f5, w5⟩ := W.mul hb hc (by omega)
  obtain ⟨r6, f6, w6⟩ := W.add w4 w5 (by omega)
  refine ⟨r3, r6, ?_, w3, w6⟩
  simp [cMulBits, f1, f2, f3, f4, f5, f6]

theorem W.csum {a b c d : Nat} {x y u v : Int} (ha : W a x) (hb : W b y) (hc : W c u) (hd : W d v) (h1 : -9007199254740992 < x + u ∧ x + u < 9007199254740992) (h2 : -9007199254740992 < y + v ∧ y + v < 9007199254740992) :
    ∃ p q, cSumBits .add .f64 a b c d = some (p, q) ∧ W p (x + u) ∧ W q (y + v) := by
  obtain ⟨r1, f1, w1⟩ := W.add ha hc h1
  obtain ⟨r2, f2, w2⟩ := W.add hb hd h2
  exact ⟨r1, r2, by simp [cSumBits, f1, f2], w1, w2⟩

/-! ### Comparison, and back to integers -/

theorem compare_mul (a b p : Int) (hp : 0 < p) : compare (a * p) (b * p) = compare a b := by
  rcases Int.lt_trichotomy a b with h | h | h
  · have h1 := Int.mul_lt_mul_of_pos_right h hp
    rw [Int.compare_eq_lt.2 h, Int.compare_eq_lt.2 h1]
  · subst h; simp
  · have h1 := Int.mul_lt_mul_of_pos_right h hp
    rw [Int.compare_eq_gt.2 h, Int.compare_eq_gt.2 h1]

theorem IsZ.order {a b : Datum} {x y : Int} (ha : IsZ a x) (hb : IsZ b y) : a.order b = some (compare x y) := by
  obtain ⟨s, m, i, K, rfl, h0, h⟩ := ha
  obtain ⟨t, n, j, L, rfl, k0, k⟩ := hb
  have h' := up h0 h (Nat.le_max_left K L)
  have k' := up k0 k (Nat.le_max_right K L)
  generalize hM : max K L = M at h' k'
  have e1 : (i + (M : Int)).toNat = (i - min i j).toNat + (min i j + M).toNat := by omega
  have e2 : (j + (M : Int)).toNat = (j - min i j).toNat + (min i j + M).toNat := by omega
  rw [e1, Int.pow_add, ← Int.mul_assoc, ← signed_eq] at h'
  rw [e2, Int.pow_add, ← Int.mul_assoc, ← signed_eq] at k'
  show some (compare (Ieee.signed s m (i - min i j).toNat) (Ieee.signed t n (j - min i j).toNat)) = _
  rw [← compare_mul _ _ _ (two_pow_pos (min i j + M).toNat), h', k', compare_mul _ _ _ (two_pow_pos M)]

theorem W.order {a b : Nat} {x y : Int} (ha : W a x) (hb : W b y) : FloatKind.f64.format.order a b = some (compare x y) := IsZ.order ha hb

theorem IsZ.toInt {d : Datum} {z : Int} (h : IsZ d z) : d.toInt .zero = some z := by
  obtain ⟨s, m, e, K, rfl, h0, h⟩ := h
  have hpK : 0 < 2 ^ K := Nat.two_pow_pos K
  have hab : m * 2 ^ (e + K).toNat = z.natAbs * 2 ^ K := by
    have := congrArg Int.natAbs h
    rw [Int.natAbs_mul, Int.natAbs_mul, sm_natAbs] at this
    have e1 : ∀ n : Nat, ((2 : Int) ^ n).natAbs = 2 ^ n := fun n => by rw [Int.natAbs_pow]; rfl
    rwa [e1, e1] at this
  have hcut : Toward.zero.cut s (m <<< e.toNat) (-e).toNat = z.natAbs := by
    rw [Nat.shiftLeft_eq]
    by_cases he : 0 ≤ e
    · have hd : (-e).toNat = 0 := by omega
      have : m * 2 ^ e.toNat = z.natAbs := by
        apply Nat.eq_of_mul_eq_mul_right hpK
        rw [← hab, Nat.mul_assoc, ← Nat.pow_add]
        congr 2
        omega
      rw [hd, this]
      simpa using cut_zero_exact s z.natAbs 0
    · have hd : e.toNat = 0 := by omega
      have : m = z.natAbs * 2 ^ (-e).toNat := by
        have hP : 0 < 2 ^ (e + (K : Int)).toNat := Nat.two_pow_pos _
        apply Nat.eq_of_mul_eq_mul_right hP
        rw [hab, Nat.mul_assoc, ← Nat.pow_add]
        congr 2
        omega
      rw [hd, Nat.pow_zero, Nat.mul_one, this]
      exact cut_zero_exact s z.natAbs _
  have hz : sm s z.natAbs = z := by
    have hp := two_pow_pos (e + (K : Int)).toNat
    have hq := two_pow_pos K
    have : sm s m * 2 ^ (e + (K : Int)).toNat = sm s z.natAbs * 2 ^ K := by
      cases s
      · simp only [sm]; simp; exact_mod_cast hab
      · simp only [sm]; simp only [if_true, Int.neg_mul]; congr 1; exact_mod_cast hab
    rw [h] at this
    exact (Int.eq_of_mul_eq_mul_right (by omega) this).symm
  show (match Datum.integral Toward.zero (Datum.number s m e) with | .number s m _ => some (Ieee.signed s m 0) | _ => none) = some z
  simp only [Datum.integral]
  rw [hcut, signed_eq, hz]
  simp

theorem W.toInt {b : Nat} {z : Int} (h : W b z) (hz : -9223372036854775808 ≤ z ∧ z ≤ 9223372036854775807) : floatToIntVal .f64 b .i64 = some z := by
  unfold floatToIntVal
  have : (FloatKind.f64.decode b).toInt .zero = some z := IsZ.toInt h
  rw [this]
  simp only
  rw [if_pos]
  simp only [IntKind.min, IntKind.max, IntKind.bits, IntKind.signed]
  simp
  omega


/-! ### A word that lies between two whole numbers has a whole part -/

theorem cut_zero_le (s : Bool) (m : Nat) (e : Int) (K B : Nat) (h0 : 0 ≤ e + K) (h : m * 2 ^ (e + K).toNat ≤ B * 2 ^ K) : Toward.zero.cut s (m <<< e.toNat) (-e).toNat ≤ B := by
  have hpK : 0 < 2 ^ K := Nat.two_pow_pos K
  by_cases he : 0 ≤ e
  · have hd : (-e).toNat = 0 := by omega
    have e1 : (e + (K : Int)).toNat = e.toNat + K := by omega
    rw [e1, Nat.pow_add, ← Nat.mul_assoc] at h
    have h2 := Nat.le_of_mul_le_mul_right h hpK
    rw [hd, Nat.shiftLeft_eq]
    have h3 := cut_zero_exact s (m * 2 ^ e.toNat) 0
    rw [Nat.pow_zero, Nat.mul_one] at h3
    rw [h3]; exact h2
  · have hd : e.toNat = 0 := by omega
    rw [hd, Nat.shiftLeft_zero]
    unfold Toward.cut
    simp only [Bool.toNat_false, Nat.add_zero]
    rw [Nat.shiftLeft_eq, Nat.one_mul]
    rcases Nat.lt_or_ge ((-e).toNat) (m.log2 + 2) with hlt | hge
    · rw [Nat.min_eq_left (by omega)]
      have e1 : K = (e + (K : Int)).toNat + (-e).toNat := by omega
      generalize (e + (K : Int)).toNat = p at *
      generalize (-e).toNat = q at *
      subst e1
      have hp : 0 < 2 ^ p := Nat.two_pow_pos p
      have hq : 0 < 2 ^ q := Nat.two_pow_pos q
      rw [Nat.pow_add, Nat.mul_comm (2 ^ p), ← Nat.mul_assoc] at h
      have h2 := Nat.le_of_mul_le_mul_right h hp
      exact Nat.div_le_of_le_mul (by rw [Nat.mul_comm]; exact h2)
    · rw [Nat.min_eq_right hge]
      have : m / 2 ^ (m.log2 + 2) = 0 := by
        apply Nat.div_eq_of_lt
        rcases Nat.eq_zero_or_pos m with h0 | h0
        · subst h0; exact Nat.two_pow_pos _
        · have h2 : m < 2 ^ (m.log2 + 1) := (Nat.log2_lt (by omega)).1 (Nat.lt_succ_self _)
          have h3 : 2 ^ (m.log2 + 1) ≤ 2 ^ (m.log2 + 2) := Nat.pow_le_pow_right (by decide) (by omega)
          omega
      omega

/-- A number that is not above B and not below -B. -/
theorem toInt_le (s : Bool) (m : Nat) (e : Int) (K B : Nat) (h0 : 0 ≤ e + K) (h1 : sm s m * 2 ^ (e + K).toNat ≤ (B : Int) * 2 ^ K) (h2 : -(B : Int) * 2 ^ K ≤ sm s m * 2 ^ (e + K).toNat) :
    ∃ n, (Datum.number s m e).toInt .zero = some n ∧ -(B : Int) ≤ n ∧ n ≤ B := by
  have hm : m * 2 ^ (e + K).toNat ≤ B * 2 ^ K := by
    have h3 : (sm s m * 2 ^ (e + (K : Int)).toNat).natAbs ≤ ((B : Int) * 2 ^ K).natAbs := by
      have hb : 0 ≤ (B : Int) * 2 ^ K := Int.mul_nonneg (by omega) (Int.le_of_lt (two_pow_pos K))
      rw [Int.neg_mul] at h2
      omega
    rw [Int.natAbs_mul, Int.natAbs_mul, sm_natAbs] at h3
    have e1 : ∀ n : Nat, ((2 : Int) ^ n).natAbs = 2 ^ n := fun n => by rw [Int.natAbs_pow]; rfl
    rw [e1, e1] at h3
    simpa using h3
  have hc := cut_zero_le s m e K B h0 hm
  refine ⟨_, rfl, ?_⟩
  rw [signed_eq]
  generalize Toward.zero.cut s (m <<< e.toNat) (-e).toNat = c at *
  cases s <;> simp [sm] <;> omega

theorem order_whole {a : Nat} {lo hi : Nat} {B : Nat} (hlo : W lo (-(B : Int))) (hhi : W hi B)
    (h1 : FloatKind.f64.format.order a lo = some .gt ∨ FloatKind.f64.format.order a lo = some .eq) (h2 : FloatKind.f64.format.order a hi = some .lt ∨ FloatKind.f64.format.order a hi = some .eq) (hB : B ≤ 4611686018427387904) :
    ∃ n, floatToIntVal .f64 a .i64 = some n ∧ -(B : Int) ≤ n ∧ n ≤ B := by
  have h1' : (double.read a).order (double.read lo) = some .gt ∨ (double.read a).order (double.read lo) = some .eq := h1
  have h2' : (double.read a).order (double.read hi) = some .lt ∨ (double.read a).order (double.read hi) = some .eq := h2
  obtain ⟨t, n, j, L, hl, k0, k⟩ := hlo
  obtain ⟨t', n', j', L', hl', k0', k'⟩ := hhi
  rw [hl] at h1'
  rw [hl'] at h2'
  have key : ∃ z, (double.read a).toInt .zero = some z ∧ -(B : Int) ≤ z ∧ z ≤ B := by
    cases hr : double.read a with
    | nan s f => rw [hr] at h1'; simp [Datum.order] at h1'
    | infinity s =>
      rw [hr] at h1' h2'
      cases s <;> simp [Datum.order] at h1' h2'
    | number s m e =>
      rw [hr] at h1' h2'
      -- one scale for all three
      obtain ⟨M, hM1, hM2, hM3⟩ : ∃ M : Nat, L ≤ M ∧ L' ≤ M ∧ 0 ≤ e + M := ⟨max (max L L') (-e).toNat, by omega, by omega, by omega⟩
      have kk := up k0 k hM1
      have kk' := up k0' k' hM2
      have cmp1 : ∀ (q : Datum) (t : Bool) (n : Nat) (j : Int), 0 ≤ j + M → (Datum.number s m e).order (Datum.number t n j) = some (compare (sm s m * 2 ^ (e + (M : Int)).toNat) (sm t n * 2 ^ (j + (M : Int)).toNat)) := by
        intro q t n j hj
        have e1 : (e + (M : Int)).toNat = (e - min e j).toNat + (min e j + M).toNat := by omega
        have e2 : (j + (M : Int)).toNat = (j - min e j).toNat + (min e j + M).toNat := by omega
        show some (compare (Ieee.signed s m (e - min e j).toNat) (Ieee.signed t n (j - min e j).toNat)) = _
        rw [signed_eq, signed_eq, e1, e2, Int.pow_add, Int.pow_add, ← Int.mul_assoc, ← Int.mul_assoc, compare_mul _ _ _ (two_pow_pos _)]
      rw [cmp1 (Datum.number t n j) t n j (by omega), kk] at h1'
      rw [cmp1 (Datum.number t n j) t' n' j' (by omega), kk'] at h2'
      refine toInt_le s m e M B hM3 ?_ ?_
      · rcases h2' with h | h
        · have := Int.compare_eq_lt.1 (Option.some.inj h); omega
        · have := Int.compare_eq_eq.1 (Option.some.inj h); omega
      · rcases h1' with h | h
        · have := Int.compare_eq_gt.1 (Option.some.inj h); omega
        · have := Int.compare_eq_eq.1 (Option.some.inj h); omega
  obtain ⟨z, hz, z0, z1⟩ := key
  refine ⟨z, ?_, z0, z1⟩
  unfold floatToIntVal
  have : (FloatKind.f64.decode a).toInt .zero = some z := hz
  rw [this]
  simp only
  rw [if_pos]
  simp only [IntKind.min, IntKind.max, IntKind.bits, IntKind.signed]
  simp
  omega

theorem one_bits : W 4607182418800017408 1 := ⟨false, 4503599627370496, -52, 52, by decide +kernel, by omega, by decide⟩
theorem range_hi : W 4706261610602168320 4194304 := ⟨false, 4503599627370496, -30, 30, by decide +kernel, by omega, by decide⟩
theorem range_lo : W 13929633647456944128 (-4194304) := ⟨true, 4503599627370496, -30, 30, by decide +kernel, by omega, by decide⟩

end Go.Proofs.Ytkjeebabcdnjkaa.FZ
