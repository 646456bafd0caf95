/-
  The walk of bits.Div64.
-/
import Derived.Test.YtioohgocbpdkeaaWide7
import Derived.Test.YtioohgocbpdkeaaShift
import Derived.Test.YtioohgocbpdkeaaKnuth
set_option linter.unusedVariables false
namespace Go.Proofs.Ytioohgocbpdkeaa
open Go.RowKit

/-- The quotient, what is left. -/
def d64q (hi lo y : Nat) : Nat := (hi * 18446744073709551616 + lo) / y
def d64r (hi lo y : Nat) : Nat := (hi * 18446744073709551616 + lo) % y

theorem lz_any (y : Nat) (hy : y < 18446744073709551616) (w : World) : Calls Try.prog 79 #[.int .u64 y] w fun e w' => e = .returned (.int .i64 (64 - (lb y : Int))) ∧ w = w' :=
  (Try.bits_LeadingZeros64 y w (by omega) (by omega)).mono fun e w' h => ⟨h.1, h.2.symm⟩

/-- How far a divisor is shifted up. -/
theorem norm_shift (y : Nat) (h0 : 0 < y) (hy : y < 18446744073709551616) : ∃ s : Nat, s < 64 ∧ (64 : Int) - (lb y : Int) = (s : Int) ∧ 9223372036854775808 ≤ y * 2 ^ s ∧ y * 2 ^ s < 18446744073709551616 := by
  obtain ⟨b1, b2⟩ := bitLenAux_spec 64 y hy
  obtain ⟨b3, b4⟩ := b2 (by omega)
  have e : Lib.bitLenAux 64 y = lb y := rfl
  rw [e] at b1 b3 b4
  have hl := lb_le y hy
  refine ⟨64 - lb y, by omega, by omega, ?_, ?_⟩
  · have : 2 ^ (lb y - 1) * 2 ^ (64 - lb y) = 9223372036854775808 := by
      rw [← Nat.pow_add, show lb y - 1 + (64 - lb y) = 63 from by omega]
    rw [← this]
    exact Nat.mul_le_mul_right _ b3
  · have : 2 ^ lb y * 2 ^ (64 - lb y) = 18446744073709551616 := by
      rw [← Nat.pow_add, show lb y + (64 - lb y) = 64 from by omega]
    rw [← this]
    exact Nat.mul_lt_mul_of_pos_right b1 (Nat.pow_pos (by decide))

theorem and_low (x : Nat) (hx : x < 18446744073709551616) : bits .and .u64 (x : Int) 4294967295 = ((x % 4294967296 : Nat) : Int) := by
  have := (bits_nat .u64 64 (by decide) (fun n h0 h1 => by rw [IntKind.wrap_u64]; omega) x 4294967295 hx (by decide)).1
  refine this.trans ?_
  rw [show (4294967295 : Nat) = 2 ^ 32 - 1 from rfl, Nat.and_two_pow_sub_one_eq_mod]
theorem or_words (hi lo s : Nat) (hs : s < 64) (h1 : hi * 2 ^ s < 18446744073709551616) (hlo : lo < 18446744073709551616) :
    bits .or .u64 (IntKind.u64.wrap ((hi : Int) * 2 ^ s)) ((lo : Int) / 2 ^ (64 - s)) = ((hi * 2 ^ s + lo / 2 ^ (64 - s) : Nat) : Int) := by
  by_cases h0 : 0 < s
  · rw [or_up hi lo s h0 hs hlo, Nat.mod_eq_of_lt h1]
  · obtain rfl : s = 0 := by omega
    rw [u64_shl, int_shr, or_nat _ _ (Nat.mod_lt _ (by decide)) (Nat.lt_of_le_of_lt (Nat.div_le_self _ _) hlo), Nat.mod_eq_of_lt h1]
    rw [show lo / 2 ^ (64 - 0) = 0 from Nat.div_eq_of_lt hlo, Nat.or_zero, Nat.add_zero]

set_option maxRecDepth 100000 in
set_option maxHeartbeats 6000000 in
theorem div64_hi (hi lo y : Nat) (h0 : 0 < hi) (h1 : hi < y) (hlo : lo < 18446744073709551616) (hy : y < 18446744073709551616) (w : World) :
    Calls Try.prog 78 #[.int .u64 hi, .int .u64 lo, .int .u64 y] w fun e w' => e = .returned (.tuple #[.int .u64 (d64q hi lo y : Nat), .int .u64 (d64r hi lo y : Nat)]) ∧ Below w.heap.size w w' := by
  have hB : Below w.heap.size w w := Below.refl _ _
  have g1 : ((y : Int) == 0) = false := by simp; omega
  have g2 : ¬ (y : Int) ≤ hi := by omega
  have g3 : ((hi : Int) == 0) = false := by simp; omega
  obtain ⟨s, hs, hs', hY1, hY2⟩ := norm_shift y (by omega) hy
  have hp : 0 < 2 ^ s := Nat.pow_pos (by decide)
  have hhi : hi * 2 ^ s < 18446744073709551616 := Nat.lt_trans (Nat.mul_lt_mul_of_pos_right h1 hp) hY2
  have hW := Knuth.words hi lo s hs
  have hbk := Knuth.back (hi * 18446744073709551616 + lo) y s
  have hN : hi * 18446744073709551616 + lo < y * 18446744073709551616 := by omega
  have hN2 : (hi * 18446744073709551616 + lo) * 2 ^ s < y * 2 ^ s * 18446744073709551616 := by
    rw [Nat.mul_right_comm]; exact Nat.mul_lt_mul_of_pos_right hN hp
  have f1 : IntKind.u64.wrap ((y : Int) * 2 ^ s) = ((y * 2 ^ s : Nat) : Int) := by rw [u64_shl, Nat.mod_eq_of_lt hY2]
  have f4 := or_words hi lo s hs hhi hlo
  have f5 := u64_shl lo s
  have hl64 : lo * 2 ^ s % 18446744073709551616 < 18446744073709551616 := Nat.mod_lt _ (by decide)
  have hlo2 : lo / 2 ^ (64 - s) ≤ lo := Nat.div_le_self _ _
  rw [hW] at hbk hN2
  generalize hYY : y * 2 ^ s = Y at *
  generalize hu : hi * 2 ^ s + lo / 2 ^ (64 - s) = u at *
  generalize hl : lo * 2 ^ s % 18446744073709551616 = l at *
  have huY : u < Y := by omega
  clear hW hN hN2 hYY hu hl hhi hp hlo2
  have f2 : (Y : Int) / 4294967296 = ((Y / 4294967296 : Nat) : Int) := rfl
  have f3 := and_low Y hY2
  have f6 : (l : Int) / 4294967296 = ((l / 4294967296 : Nat) : Int) := rfl
  have f7 := and_low l hl64
  have eY := Nat.div_add_mod Y 4294967296
  have el := Nat.div_add_mod l 4294967296
  have y0h := Nat.mod_lt Y (show 0 < 4294967296 by decide)
  have d0h := Nat.mod_lt l (show 0 < 4294967296 by decide)
  have y1a : 2147483648 ≤ Y / 4294967296 := by omega
  have y1b : Y / 4294967296 < 4294967296 := by omega
  have d1h : l / 4294967296 < 4294967296 := by omega
  generalize Y / 4294967296 = y1 at *
  generalize Y % 4294967296 = y0 at *
  generalize l / 4294967296 = d1 at *
  generalize l % 4294967296 = d0 at *
  have HE := Lib.hid (show Y = y1 * 4294967296 + y0 ∧ l = d1 * 4294967296 + d0 from ⟨by omega, by omega⟩)
  clear eY el
  have G := Knuth.first (u := u) (d := d1) y1a y1b y0h d1h (by have := HE.out.1; show u < y1 * 4294967296 + y0; omega)
  have hq1 := G.le
  have hq2 := G.sum
  have hr1 := Nat.mod_lt u (show 0 < y1 by omega)
  have f8 : (u : Int).tdiv y1 = ((u / y1 : Nat) : Int) := rfl
  have f8' : (u : Int) / y1 = ((u / y1 : Nat) : Int) := rfl
  generalize u / y1 = q at *
  generalize u % y1 = r at *
  have hqy : ((q * y1 : Nat) : Int) = (q : Int) * (y1 : Int) := Int.natCast_mul _ _
  have f9 : IntKind.u64.wrap ((q : Int) * (y1 : Int)) = ((q * y1 : Nat) : Int) := by rw [IntKind.wrap_u64, ← hqy]; omega
  have f10 : IntKind.u64.wrap ((u : Int) - ((q * y1 : Nat) : Int)) = (r : Int) := by rw [IntKind.wrap_u64]; omega
  have f11 : IntKind.u64.wrap (q : Int) = (q : Int) := by rw [IntKind.wrap_u64]; simp only [Knuth.h] at hq1; omega
  generalize hqq : q * y1 = qy at *
  clear hqy hqq hq2
  go_enter Try.func78, Try.ntmps78
  go_wp2_with fail
  refine (lz_any y hy _).mono ?_
  rintro e w' ⟨rfl, rfl⟩
  rw [hs']
  clear hs'
  go_wp2_with fail
  clear f1 f2 f3 f4 f5 f6 f7 f8 f8' f9 f10 f11 g1 g2 g3
  have hr2 : r < 4294967296 := by omega
  have HG := Lib.hid G
  clear G hq1 hr1
  go_loopw [15, 16] (fun a b wr => wr = w ∧ ∃ q r : Nat, a = .int .u64 q ∧ b = .int .u64 r ∧ r < 4294967296 ∧ Hid (Knuth.Guess y1 y0 u d1 q r)) (fun a b _ => (intOf a).toNat)
  case atStart => exact ⟨rfl, _, _, rfl, rfl, hr2, HG⟩
  case round =>
    clear HG hr2
    obtain ⟨e0, q, r, rfl, rfl, hr2, HG⟩ := hrel
    have e0' := e0.symm
    clear e0
    subst e0'
    have hu' : u < y1 * Knuth.h + y0 := by have := HE.out.1; show u < y1 * 4294967296 + y0; omega
    have hq1 : q ≤ 4294967297 := HG.out.le
    obtain ⟨m, hm⟩ : ∃ m : Nat, q * y0 = m := ⟨_, rfl⟩
    have hm1 : m ≤ 4294967297 * 4294967295 := by rw [← hm]; exact Nat.mul_le_mul hq1 (by omega)
    have e1 : IntKind.u64.wrap ((q : Int) * (y0 : Int)) = (m : Int) := by
      rw [← Int.natCast_mul, hm, IntKind.wrap_u64]; omega
    obtain ⟨k0, hk0⟩ : ∃ k : Nat, 4294967296 * r = k := ⟨_, rfl⟩
    have e2 : IntKind.u64.wrap (4294967296 * (r : Int)) = (k0 : Int) := by rw [IntKind.wrap_u64]; omega
    obtain ⟨k, hk⟩ : ∃ k : Nat, k0 + d1 = k := ⟨_, rfl⟩
    have e3 : IntKind.u64.wrap ((k0 : Int) + (d1 : Int)) = (k : Int) := by rw [IntKind.wrap_u64]; omega
    have hkk : Knuth.h * r + d1 = k := by simp only [Knuth.h]; omega
    have hdn : Knuth.h ≤ q ∨ k < m → 0 < q ∧ Knuth.Guess y1 y0 u d1 (q - 1) (r + y1) := fun ht => Knuth.down d1h hu' HG.out (by rw [hkk, hm]; exact ht)
    have hst : q < Knuth.h → m ≤ k → q = (u * Knuth.h + d1) / (y1 * Knuth.h + y0) := fun h1 h2 => Knuth.stop d1h hu' HG.out h1 (by rw [hkk, hm]; exact h2)
    obtain ⟨r', hr'⟩ : ∃ r', r + y1 = r' := ⟨_, rfl⟩
    have e5 : IntKind.u64.wrap ((r : Int) + (y1 : Int)) = (r' : Int) := by rw [IntKind.wrap_u64]; omega
    have hr3 : r' < 18446744073709551616 := by omega
    rw [hr'] at hdn
    have HH := Lib.hid hdn
    have HS := Lib.hid hst
    have hq64 : (q : Int) < 18446744073709551616 := by omega
    clear hm hk0 hk hkk hdn hst hm1 hr'
    by_cases hA : 4294967296 ≤ q
    · have HT : Hid (Knuth.h ≤ q ∨ k < m) := .inl hA
      have t1 : decide ((q : Int) ≥ 4294967296) = true := decide_eq_true (by omega)
      have t1' : (4294967296 : Int) ≤ (q : Int) := by omega
      clear hA
      obtain ⟨h0q, hG2⟩ := HH.out (HT.out)
      obtain ⟨q', hq'⟩ : ∃ q', q - 1 = q' := ⟨_, rfl⟩
      rw [hq'] at hG2
      have HG2 := Lib.hid hG2
      have e4 : IntKind.u64.wrap ((q : Int) - 1) = (q' : Int) := by rw [IntKind.wrap_u64]; omega
      have HQ := Lib.hid (show q = q' + 1 from by omega)
      have hq2 : q' ≤ 4294967296 := by omega
      clear hG2 hq' h0q hq1
      by_cases hbr : (4294967296 : Int) ≤ (r' : Int)
      · have HF := Lib.hid (Knuth.stop' y0h d1h hu' HG2.out hq2 (by simp only [Knuth.h]; omega))
        clear hq2
        have hdq1 : (u * 4294967296 + d1) / Y = q' := by rw [HE.out.1]; exact HF.out.symm
        have hq1h : q' < 4294967296 := by rw [← hdq1, HE.out.1]; exact Knuth.digit_lt (y1 := y1) (y0 := y0) d1h hu'
        have HD1 := Lib.hid hdq1
        have aE := Nat.div_add_mod (u * 4294967296 + d1) Y
        have aQ : (u * 4294967296 + d1) / Y = q' := hdq1
        rw [aQ] at aE
        have aL := Nat.mod_lt (u * 4294967296 + d1) (show 0 < Y by omega)
        obtain ⟨v, vE⟩ : ∃ z, (u * 4294967296 + d1) % Y = z := ⟨_, rfl⟩
        rw [vE] at aE aL
        obtain ⟨aC, aCE⟩ : ∃ c, q' * Y % 18446744073709551616 = c := ⟨_, rfl⟩
        have a3 : IntKind.u64.wrap ((q' : Int) * (Y : Int)) = (aC : Int) := by rw [← Int.natCast_mul, IntKind.wrap_u64]; omega
        rw [Nat.mul_comm Y] at aE
        obtain ⟨aA, aAE⟩ : ∃ c, u * 4294967296 % 18446744073709551616 = c := ⟨_, rfl⟩
        have a1 : IntKind.u64.wrap ((u : Int) * 4294967296) = (aA : Int) := by rw [IntKind.wrap_u64]; omega
        obtain ⟨aB, aBE⟩ : ∃ c, (aA + d1) % 18446744073709551616 = c := ⟨_, rfl⟩
        have a2 : IntKind.u64.wrap ((aA : Int) + (d1 : Int)) = (aB : Int) := by rw [IntKind.wrap_u64]; omega
        have a4 : IntKind.u64.wrap ((aB : Int) - (aC : Int)) = (v : Int) := by
          rw [IntKind.wrap_u64]
          generalize q' * Y = P at *
          omega
        have Hv := Lib.hid vE
        clear aE aCE aAE aBE vE
        have hvY : v < Y := aL
        clear aQ hdq1 aL HF
        obtain ⟨qa, rfl⟩ : ∃ c, c = q' := ⟨_, rfl⟩
        have G := Knuth.first (u := v) (d := d0) y1a y1b y0h d0h (by have := HE.out.1; show v < y1 * 4294967296 + y0; omega)
        have hq1 := G.le
        have hq2 := G.sum
        have hr1 := Nat.mod_lt v (show 0 < y1 by omega)
        have f8 : (v : Int).tdiv y1 = ((v / y1 : Nat) : Int) := rfl
        have f8' : (v : Int) / y1 = ((v / y1 : Nat) : Int) := rfl
        generalize v / y1 = q0 at *
        generalize v % y1 = r0 at *
        have hqy : ((q0 * y1 : Nat) : Int) = (q0 : Int) * (y1 : Int) := Int.natCast_mul _ _
        have f9 : IntKind.u64.wrap ((q0 : Int) * (y1 : Int)) = ((q0 * y1 : Nat) : Int) := by rw [IntKind.wrap_u64, ← hqy]; omega
        have f10 : IntKind.u64.wrap ((v : Int) - ((q0 * y1 : Nat) : Int)) = (r0 : Int) := by rw [IntKind.wrap_u64]; omega
        have f11 : IntKind.u64.wrap (q0 : Int) = (q0 : Int) := by rw [IntKind.wrap_u64]; simp only [Knuth.h] at hq1; omega
        generalize hqq : q0 * y1 = qy at *
        clear hqy hqq hq2
        go_wp2_with fail
        clear f8 f8' f9 f10 f11 a1 a2 a3 a4 e1 e2 e3 e5
        have hr2' : r0 < 4294967296 := by omega
        have HG' := Lib.hid G
        clear G hq1 hr1 HG hr2 HH HS
        have hr2 := hr2'
        have HG := HG'
        clear hr2' HG'
        go_loopw [16, 18] (fun a b wr => wr = w ∧ ∃ q r : Nat, b = .int .u64 q ∧ a = .int .u64 r ∧ r < 4294967296 ∧ Hid (Knuth.Guess y1 y0 v d0 q r)) (fun a b _ => (intOf b).toNat)
        case atStart => exact ⟨rfl, _, _, rfl, rfl, hr2, HG⟩
        case round =>
          clear HG hr2
          obtain ⟨e0, q, r, rfl, rfl, hr2, HG⟩ := hrel
          have e0' := e0.symm
          clear e0
          subst e0'
          have hu' : v < y1 * Knuth.h + y0 := by have := HE.out.1; show v < y1 * 4294967296 + y0; omega
          have hq1 : q ≤ 4294967297 := HG.out.le
          obtain ⟨m, hm⟩ : ∃ m : Nat, q * y0 = m := ⟨_, rfl⟩
          have hm1 : m ≤ 4294967297 * 4294967295 := by rw [← hm]; exact Nat.mul_le_mul hq1 (by omega)
          have e1 : IntKind.u64.wrap ((q : Int) * (y0 : Int)) = (m : Int) := by
            rw [← Int.natCast_mul, hm, IntKind.wrap_u64]; omega
          obtain ⟨k0, hk0⟩ : ∃ k : Nat, 4294967296 * r = k := ⟨_, rfl⟩
          have e2 : IntKind.u64.wrap (4294967296 * (r : Int)) = (k0 : Int) := by rw [IntKind.wrap_u64]; omega
          obtain ⟨k, hk⟩ : ∃ k : Nat, k0 + d0 = k := ⟨_, rfl⟩
          have e3 : IntKind.u64.wrap ((k0 : Int) + (d0 : Int)) = (k : Int) := by rw [IntKind.wrap_u64]; omega
          have hkk : Knuth.h * r + d0 = k := by simp only [Knuth.h]; omega
          have hdn : Knuth.h ≤ q ∨ k < m → 0 < q ∧ Knuth.Guess y1 y0 v d0 (q - 1) (r + y1) := fun ht => Knuth.down d0h hu' HG.out (by rw [hkk, hm]; exact ht)
          have hst : q < Knuth.h → m ≤ k → q = (v * Knuth.h + d0) / (y1 * Knuth.h + y0) := fun h1 h2 => Knuth.stop d0h hu' HG.out h1 (by rw [hkk, hm]; exact h2)
          obtain ⟨r', hr'⟩ : ∃ r', r + y1 = r' := ⟨_, rfl⟩
          have e5 : IntKind.u64.wrap ((r : Int) + (y1 : Int)) = (r' : Int) := by rw [IntKind.wrap_u64]; omega
          have hr3 : r' < 18446744073709551616 := by omega
          rw [hr'] at hdn
          have HH := Lib.hid hdn
          have HS := Lib.hid hst
          have hq64 : (q : Int) < 18446744073709551616 := by omega
          clear hm hk0 hk hkk hdn hst hm1 hr'
          by_cases hA : 4294967296 ≤ q
          · have HT : Hid (Knuth.h ≤ q ∨ k < m) := .inl hA
            have t1 : decide ((q : Int) ≥ 4294967296) = true := decide_eq_true (by omega)
            have t1' : (4294967296 : Int) ≤ (q : Int) := by omega
            clear hA
            obtain ⟨h0q, hG2⟩ := HH.out (HT.out)
            obtain ⟨q', hq'⟩ : ∃ q', q - 1 = q' := ⟨_, rfl⟩
            rw [hq'] at hG2
            have HG2 := Lib.hid hG2
            have e4 : IntKind.u64.wrap ((q : Int) - 1) = (q' : Int) := by rw [IntKind.wrap_u64]; omega
            have HQ := Lib.hid (show q = q' + 1 from by omega)
            have hq2 : q' ≤ 4294967296 := by omega
            clear hG2 hq' h0q hq1
            by_cases hbr : (4294967296 : Int) ≤ (r' : Int)
            · have HF := Lib.hid (Knuth.stop' y0h d0h hu' HG2.out hq2 (by simp only [Knuth.h]; omega))
              clear hq2
              have hdq : (v * 4294967296 + d0) / Y = q' := by rw [HE.out.1]; exact HF.out.symm
              have hq0 : q' < 4294967296 := by rw [← hdq, HE.out.1]; exact Knuth.digit_lt (y1 := y1) (y0 := y0) d0h (by have := HE.out.1; show v < y1 * 4294967296 + y0; omega)
              have bE := Nat.div_add_mod (v * 4294967296 + d0) Y
              have bQ : (v * 4294967296 + d0) / Y = q' := hdq
              rw [bQ] at bE
              have bL := Nat.mod_lt (v * 4294967296 + d0) (show 0 < Y by omega)
              obtain ⟨R, RE⟩ : ∃ z, (v * 4294967296 + d0) % Y = z := ⟨_, rfl⟩
              rw [RE] at bE bL
              obtain ⟨bC, bCE⟩ : ∃ c, q' * Y % 18446744073709551616 = c := ⟨_, rfl⟩
              have b3 : IntKind.u64.wrap ((q' : Int) * (Y : Int)) = (bC : Int) := by rw [← Int.natCast_mul, IntKind.wrap_u64]; omega
              rw [Nat.mul_comm Y] at bE
              obtain ⟨bA, bAE⟩ : ∃ c, v * 4294967296 % 18446744073709551616 = c := ⟨_, rfl⟩
              have b1 : IntKind.u64.wrap ((v : Int) * 4294967296) = (bA : Int) := by rw [IntKind.wrap_u64]; omega
              obtain ⟨bB, bBE⟩ : ∃ c, (bA + d0) % 18446744073709551616 = c := ⟨_, rfl⟩
              have b2 : IntKind.u64.wrap ((bA : Int) + (d0 : Int)) = (bB : Int) := by rw [IntKind.wrap_u64]; omega
              have b4 : IntKind.u64.wrap ((bB : Int) - (bC : Int)) = (R : Int) := by
                rw [IntKind.wrap_u64]
                generalize q' * Y = P at *
                omega
              have HR0' := Lib.hid RE
              clear bE bCE bAE bBE RE
              obtain ⟨Q1, hQ1⟩ : ∃ c : Nat, qa * 4294967296 = c := ⟨_, rfl⟩
              have c1 : IntKind.u64.wrap ((qa : Int) * 4294967296) = (Q1 : Int) := by rw [IntKind.wrap_u64]; omega
              obtain ⟨Q, hQ⟩ : ∃ c : Nat, Q1 + q' = c := ⟨_, rfl⟩
              have c2 : IntKind.u64.wrap ((Q1 : Int) + (q' : Int)) = (Q : Int) := by rw [IntKind.wrap_u64]; omega
              have HR : Hid (Q = d64q hi lo y ∧ R / 2 ^ s = d64r hi lo y) := by
                show Q = (hi * 18446744073709551616 + lo) / y ∧ R / 2 ^ s = (hi * 18446744073709551616 + lo) % y
                have e2 := Knuth.two u d1 d0 Y (by omega)
                have el := HE.out.2
                have eN : u * 18446744073709551616 + l = u * Knuth.h * Knuth.h + d1 * Knuth.h + d0 := Knuth.join u l d1 d0 el
                rw [← eN] at e2
                rw [← hbk.1, ← hbk.2, e2.1, e2.2]
                have x1 : (u * Knuth.h + d1) / Y = qa := HD1.out
                have x2 : (u * Knuth.h + d1) % Y = v := Hv.out
                have x3 : (v * Knuth.h + d0) / Y = q' := hdq
                have x4 : (v * Knuth.h + d0) % Y = R := HR0'.out
                rw [x1, x2, x3, x4]
                refine ⟨?_, rfl⟩
                show Q = qa * 4294967296 + q'
                rw [← hQ, ← hQ1]
              clear hQ hQ1 hdq hq0 bQ
              go_wp2_with fail
              exact bodyPost_ret (v := .tuple #[.int .u64 (Q : Nat), .int .u64 ((R : Int) / 2 ^ s)]) (by simp [results, Try.results78]) rfl ⟨by rw [int_shr, HR.out.1, HR.out.2], hB⟩
            · clear hq2
              go_wp2_with fail
              go_roundw
              case rel => exact ⟨by first | trivial | rfl, q', r', rfl, rfl, by omega, HG2⟩
              case measure => have := HQ.out; simp [intOf]; omega
          · by_cases hB : k < m
            · have HT : Hid (Knuth.h ≤ q ∨ k < m) := .inr hB
              have t1 : ¬ (4294967296 : Int) ≤ (q : Int) := by omega
              have t2 : (k : Int) < (m : Int) := by omega
              clear hA hB
              obtain ⟨h0q, hG2⟩ := HH.out (HT.out)
              obtain ⟨q', hq'⟩ : ∃ q', q - 1 = q' := ⟨_, rfl⟩
              rw [hq'] at hG2
              have HG2 := Lib.hid hG2
              have e4 : IntKind.u64.wrap ((q : Int) - 1) = (q' : Int) := by rw [IntKind.wrap_u64]; omega
              have HQ := Lib.hid (show q = q' + 1 from by omega)
              have hq2 : q' ≤ 4294967296 := by omega
              clear hG2 hq' h0q hq1
              by_cases hbr : (4294967296 : Int) ≤ (r' : Int)
              · have HF := Lib.hid (Knuth.stop' y0h d0h hu' HG2.out hq2 (by simp only [Knuth.h]; omega))
                clear hq2
                have hdq : (v * 4294967296 + d0) / Y = q' := by rw [HE.out.1]; exact HF.out.symm
                have hq0 : q' < 4294967296 := by rw [← hdq, HE.out.1]; exact Knuth.digit_lt (y1 := y1) (y0 := y0) d0h (by have := HE.out.1; show v < y1 * 4294967296 + y0; omega)
                have bE := Nat.div_add_mod (v * 4294967296 + d0) Y
                have bQ : (v * 4294967296 + d0) / Y = q' := hdq
                rw [bQ] at bE
                have bL := Nat.mod_lt (v * 4294967296 + d0) (show 0 < Y by omega)
                obtain ⟨R, RE⟩ : ∃ z, (v * 4294967296 + d0) % Y = z := ⟨_, rfl⟩
                rw [RE] at bE bL
                obtain ⟨bC, bCE⟩ : ∃ c, q' * Y % 18446744073709551616 = c := ⟨_, rfl⟩
                have b3 : IntKind.u64.wrap ((q' : Int) * (Y : Int)) = (bC : Int) := by rw [← Int.natCast_mul, IntKind.wrap_u64]; omega
                rw [Nat.mul_comm Y] at bE
                obtain ⟨bA, bAE⟩ : ∃ c, v * 4294967296 % 18446744073709551616 = c := ⟨_, rfl⟩
                have b1 : IntKind.u64.wrap ((v : Int) * 4294967296) = (bA : Int) := by rw [IntKind.wrap_u64]; omega
                obtain ⟨bB, bBE⟩ : ∃ c, (bA + d0) % 18446744073709551616 = c := ⟨_, rfl⟩
                have b2 : IntKind.u64.wrap ((bA : Int) + (d0 : Int)) = (bB : Int) := by rw [IntKind.wrap_u64]; omega
                have b4 : IntKind.u64.wrap ((bB : Int) - (bC : Int)) = (R : Int) := by
                  rw [IntKind.wrap_u64]
                  generalize q' * Y = P at *
                  omega
                have HR0' := Lib.hid RE
                clear bE bCE bAE bBE RE
                obtain ⟨Q1, hQ1⟩ : ∃ c : Nat, qa * 4294967296 = c := ⟨_, rfl⟩
                have c1 : IntKind.u64.wrap ((qa : Int) * 4294967296) = (Q1 : Int) := by rw [IntKind.wrap_u64]; omega
                obtain ⟨Q, hQ⟩ : ∃ c : Nat, Q1 + q' = c := ⟨_, rfl⟩
                have c2 : IntKind.u64.wrap ((Q1 : Int) + (q' : Int)) = (Q : Int) := by rw [IntKind.wrap_u64]; omega
                have HR : Hid (Q = d64q hi lo y ∧ R / 2 ^ s = d64r hi lo y) := by
                  show Q = (hi * 18446744073709551616 + lo) / y ∧ R / 2 ^ s = (hi * 18446744073709551616 + lo) % y
                  have e2 := Knuth.two u d1 d0 Y (by omega)
                  have el := HE.out.2
                  have eN : u * 18446744073709551616 + l = u * Knuth.h * Knuth.h + d1 * Knuth.h + d0 := Knuth.join u l d1 d0 el
                  rw [← eN] at e2
                  rw [← hbk.1, ← hbk.2, e2.1, e2.2]
                  have x1 : (u * Knuth.h + d1) / Y = qa := HD1.out
                  have x2 : (u * Knuth.h + d1) % Y = v := Hv.out
                  have x3 : (v * Knuth.h + d0) / Y = q' := hdq
                  have x4 : (v * Knuth.h + d0) % Y = R := HR0'.out
                  rw [x1, x2, x3, x4]
                  refine ⟨?_, rfl⟩
                  show Q = qa * 4294967296 + q'
                  rw [← hQ, ← hQ1]
                clear hQ hQ1 hdq hq0 bQ
                go_wp2_with fail
                exact bodyPost_ret (v := .tuple #[.int .u64 (Q : Nat), .int .u64 ((R : Int) / 2 ^ s)]) (by simp [results, Try.results78]) rfl ⟨by rw [int_shr, HR.out.1, HR.out.2], hB⟩
              · clear hq2
                go_wp2_with fail
                go_roundw
                case rel => exact ⟨by first | trivial | rfl, q', r', rfl, rfl, by omega, HG2⟩
                case measure => have := HQ.out; simp [intOf]; omega
            · have HF := Lib.hid (HS.out (by simp only [Knuth.h]; omega) (by omega))
              have t1 : ¬ (4294967296 : Int) ≤ (q : Int) := by omega
              have t2 : ¬ (k : Int) < (m : Int) := by omega
              clear hA hB hq1
              have hdq : (v * 4294967296 + d0) / Y = q := by rw [HE.out.1]; exact HF.out.symm
              have hq0 : q < 4294967296 := by rw [← hdq, HE.out.1]; exact Knuth.digit_lt (y1 := y1) (y0 := y0) d0h (by have := HE.out.1; show v < y1 * 4294967296 + y0; omega)
              have bE := Nat.div_add_mod (v * 4294967296 + d0) Y
              have bQ : (v * 4294967296 + d0) / Y = q := hdq
              rw [bQ] at bE
              have bL := Nat.mod_lt (v * 4294967296 + d0) (show 0 < Y by omega)
              obtain ⟨R, RE⟩ : ∃ z, (v * 4294967296 + d0) % Y = z := ⟨_, rfl⟩
              rw [RE] at bE bL
              obtain ⟨bC, bCE⟩ : ∃ c, q * Y % 18446744073709551616 = c := ⟨_, rfl⟩
              have b3 : IntKind.u64.wrap ((q : Int) * (Y : Int)) = (bC : Int) := by rw [← Int.natCast_mul, IntKind.wrap_u64]; omega
              rw [Nat.mul_comm Y] at bE
              obtain ⟨bA, bAE⟩ : ∃ c, v * 4294967296 % 18446744073709551616 = c := ⟨_, rfl⟩
              have b1 : IntKind.u64.wrap ((v : Int) * 4294967296) = (bA : Int) := by rw [IntKind.wrap_u64]; omega
              obtain ⟨bB, bBE⟩ : ∃ c, (bA + d0) % 18446744073709551616 = c := ⟨_, rfl⟩
              have b2 : IntKind.u64.wrap ((bA : Int) + (d0 : Int)) = (bB : Int) := by rw [IntKind.wrap_u64]; omega
              have b4 : IntKind.u64.wrap ((bB : Int) - (bC : Int)) = (R : Int) := by
                rw [IntKind.wrap_u64]
                generalize q * Y = P at *
                omega
              have HR0' := Lib.hid RE
              clear bE bCE bAE bBE RE
              obtain ⟨Q1, hQ1⟩ : ∃ c : Nat, qa * 4294967296 = c := ⟨_, rfl⟩
              have c1 : IntKind.u64.wrap ((qa : Int) * 4294967296) = (Q1 : Int) := by rw [IntKind.wrap_u64]; omega
              obtain ⟨Q, hQ⟩ : ∃ c : Nat, Q1 + q = c := ⟨_, rfl⟩
              have c2 : IntKind.u64.wrap ((Q1 : Int) + (q : Int)) = (Q : Int) := by rw [IntKind.wrap_u64]; omega
              have HR : Hid (Q = d64q hi lo y ∧ R / 2 ^ s = d64r hi lo y) := by
                show Q = (hi * 18446744073709551616 + lo) / y ∧ R / 2 ^ s = (hi * 18446744073709551616 + lo) % y
                have e2 := Knuth.two u d1 d0 Y (by omega)
                have el := HE.out.2
                have eN : u * 18446744073709551616 + l = u * Knuth.h * Knuth.h + d1 * Knuth.h + d0 := Knuth.join u l d1 d0 el
                rw [← eN] at e2
                rw [← hbk.1, ← hbk.2, e2.1, e2.2]
                have x1 : (u * Knuth.h + d1) / Y = qa := HD1.out
                have x2 : (u * Knuth.h + d1) % Y = v := Hv.out
                have x3 : (v * Knuth.h + d0) / Y = q := hdq
                have x4 : (v * Knuth.h + d0) % Y = R := HR0'.out
                rw [x1, x2, x3, x4]
                refine ⟨?_, rfl⟩
                show Q = qa * 4294967296 + q
                rw [← hQ, ← hQ1]
              clear hQ hQ1 hdq hq0 bQ
              go_wp2_with fail
              exact bodyPost_ret (v := .tuple #[.int .u64 (Q : Nat), .int .u64 ((R : Int) / 2 ^ s)]) (by simp [results, Try.results78]) rfl ⟨by rw [int_shr, HR.out.1, HR.out.2], hB⟩
      · clear hq2
        go_wp2_with fail
        go_roundw
        case rel => exact ⟨by first | trivial | rfl, q', r', rfl, rfl, by omega, HG2⟩
        case measure => have := HQ.out; simp [intOf]; omega
    · by_cases hB : k < m
      · have HT : Hid (Knuth.h ≤ q ∨ k < m) := .inr hB
        have t1 : ¬ (4294967296 : Int) ≤ (q : Int) := by omega
        have t2 : (k : Int) < (m : Int) := by omega
        clear hA hB
        obtain ⟨h0q, hG2⟩ := HH.out (HT.out)
        obtain ⟨q', hq'⟩ : ∃ q', q - 1 = q' := ⟨_, rfl⟩
        rw [hq'] at hG2
        have HG2 := Lib.hid hG2
        have e4 : IntKind.u64.wrap ((q : Int) - 1) = (q' : Int) := by rw [IntKind.wrap_u64]; omega
        have HQ := Lib.hid (show q = q' + 1 from by omega)
        have hq2 : q' ≤ 4294967296 := by omega
        clear hG2 hq' h0q hq1
        by_cases hbr : (4294967296 : Int) ≤ (r' : Int)
        · have HF := Lib.hid (Knuth.stop' y0h d1h hu' HG2.out hq2 (by simp only [Knuth.h]; omega))
          clear hq2
          have hdq1 : (u * 4294967296 + d1) / Y = q' := by rw [HE.out.1]; exact HF.out.symm
          have hq1h : q' < 4294967296 := by rw [← hdq1, HE.out.1]; exact Knuth.digit_lt (y1 := y1) (y0 := y0) d1h hu'
          have HD1 := Lib.hid hdq1
          have aE := Nat.div_add_mod (u * 4294967296 + d1) Y
          have aQ : (u * 4294967296 + d1) / Y = q' := hdq1
          rw [aQ] at aE
          have aL := Nat.mod_lt (u * 4294967296 + d1) (show 0 < Y by omega)
          obtain ⟨v, vE⟩ : ∃ z, (u * 4294967296 + d1) % Y = z := ⟨_, rfl⟩
          rw [vE] at aE aL
          obtain ⟨aC, aCE⟩ : ∃ c, q' * Y % 18446744073709551616 = c := ⟨_, rfl⟩
          have a3 : IntKind.u64.wrap ((q' : Int) * (Y : Int)) = (aC : Int) := by rw [← Int.natCast_mul, IntKind.wrap_u64]; omega
          rw [Nat.mul_comm Y] at aE
          obtain ⟨aA, aAE⟩ : ∃ c, u * 4294967296 % 18446744073709551616 = c := ⟨_, rfl⟩
          have a1 : IntKind.u64.wrap ((u : Int) * 4294967296) = (aA : Int) := by rw [IntKind.wrap_u64]; omega
          obtain ⟨aB, aBE⟩ : ∃ c, (aA + d1) % 18446744073709551616 = c := ⟨_, rfl⟩
          have a2 : IntKind.u64.wrap ((aA : Int) + (d1 : Int)) = (aB : Int) := by rw [IntKind.wrap_u64]; omega
          have a4 : IntKind.u64.wrap ((aB : Int) - (aC : Int)) = (v : Int) := by
            rw [IntKind.wrap_u64]
            generalize q' * Y = P at *
            omega
          have Hv := Lib.hid vE
          clear aE aCE aAE aBE vE
          have hvY : v < Y := aL
          clear aQ hdq1 aL HF
          obtain ⟨qa, rfl⟩ : ∃ c, c = q' := ⟨_, rfl⟩
          have G := Knuth.first (u := v) (d := d0) y1a y1b y0h d0h (by have := HE.out.1; show v < y1 * 4294967296 + y0; omega)
          have hq1 := G.le
          have hq2 := G.sum
          have hr1 := Nat.mod_lt v (show 0 < y1 by omega)
          have f8 : (v : Int).tdiv y1 = ((v / y1 : Nat) : Int) := rfl
          have f8' : (v : Int) / y1 = ((v / y1 : Nat) : Int) := rfl
          generalize v / y1 = q0 at *
          generalize v % y1 = r0 at *
          have hqy : ((q0 * y1 : Nat) : Int) = (q0 : Int) * (y1 : Int) := Int.natCast_mul _ _
          have f9 : IntKind.u64.wrap ((q0 : Int) * (y1 : Int)) = ((q0 * y1 : Nat) : Int) := by rw [IntKind.wrap_u64, ← hqy]; omega
          have f10 : IntKind.u64.wrap ((v : Int) - ((q0 * y1 : Nat) : Int)) = (r0 : Int) := by rw [IntKind.wrap_u64]; omega
          have f11 : IntKind.u64.wrap (q0 : Int) = (q0 : Int) := by rw [IntKind.wrap_u64]; simp only [Knuth.h] at hq1; omega
          generalize hqq : q0 * y1 = qy at *
          clear hqy hqq hq2
          go_wp2_with fail
          clear f8 f8' f9 f10 f11 a1 a2 a3 a4 e1 e2 e3 e5
          have hr2' : r0 < 4294967296 := by omega
          have HG' := Lib.hid G
          clear G hq1 hr1 HG hr2 HH HS
          have hr2 := hr2'
          have HG := HG'
          clear hr2' HG'
          go_loopw [16, 18] (fun a b wr => wr = w ∧ ∃ q r : Nat, b = .int .u64 q ∧ a = .int .u64 r ∧ r < 4294967296 ∧ Hid (Knuth.Guess y1 y0 v d0 q r)) (fun a b _ => (intOf b).toNat)
          case atStart => exact ⟨rfl, _, _, rfl, rfl, hr2, HG⟩
          case round =>
            clear HG hr2
            obtain ⟨e0, q, r, rfl, rfl, hr2, HG⟩ := hrel
            have e0' := e0.symm
            clear e0
            subst e0'
            have hu' : v < y1 * Knuth.h + y0 := by have := HE.out.1; show v < y1 * 4294967296 + y0; omega
            have hq1 : q ≤ 4294967297 := HG.out.le
            obtain ⟨m, hm⟩ : ∃ m : Nat, q * y0 = m := ⟨_, rfl⟩
            have hm1 : m ≤ 4294967297 * 4294967295 := by rw [← hm]; exact Nat.mul_le_mul hq1 (by omega)
            have e1 : IntKind.u64.wrap ((q : Int) * (y0 : Int)) = (m : Int) := by
              rw [← Int.natCast_mul, hm, IntKind.wrap_u64]; omega
            obtain ⟨k0, hk0⟩ : ∃ k : Nat, 4294967296 * r = k := ⟨_, rfl⟩
            have e2 : IntKind.u64.wrap (4294967296 * (r : Int)) = (k0 : Int) := by rw [IntKind.wrap_u64]; omega
            obtain ⟨k, hk⟩ : ∃ k : Nat, k0 + d0 = k := ⟨_, rfl⟩
            have e3 : IntKind.u64.wrap ((k0 : Int) + (d0 : Int)) = (k : Int) := by rw [IntKind.wrap_u64]; omega
            have hkk : Knuth.h * r + d0 = k := by simp only [Knuth.h]; omega
            have hdn : Knuth.h ≤ q ∨ k < m → 0 < q ∧ Knuth.Guess y1 y0 v d0 (q - 1) (r + y1) := fun ht => Knuth.down d0h hu' HG.out (by rw [hkk, hm]; exact ht)
            have hst : q < Knuth.h → m ≤ k → q = (v * Knuth.h + d0) / (y1 * Knuth.h + y0) := fun h1 h2 => Knuth.stop d0h hu' HG.out h1 (by rw [hkk, hm]; exact h2)
            obtain ⟨r', hr'⟩ : ∃ r', r + y1 = r' := ⟨_, rfl⟩
            have e5 : IntKind.u64.wrap ((r : Int) + (y1 : Int)) = (r' : Int) := by rw [IntKind.wrap_u64]; omega
            have hr3 : r' < 18446744073709551616 := by omega
            rw [hr'] at hdn
            have HH := Lib.hid hdn
            have HS := Lib.hid hst
            have hq64 : (q : Int) < 18446744073709551616 := by omega
            clear hm hk0 hk hkk hdn hst hm1 hr'
            by_cases hA : 4294967296 ≤ q
            · have HT : Hid (Knuth.h ≤ q ∨ k < m) := .inl hA
              have t1 : decide ((q : Int) ≥ 4294967296) = true := decide_eq_true (by omega)
              have t1' : (4294967296 : Int) ≤ (q : Int) := by omega
              clear hA
              obtain ⟨h0q, hG2⟩ := HH.out (HT.out)
              obtain ⟨q', hq'⟩ : ∃ q', q - 1 = q' := ⟨_, rfl⟩
              rw [hq'] at hG2
              have HG2 := Lib.hid hG2
              have e4 : IntKind.u64.wrap ((q : Int) - 1) = (q' : Int) := by rw [IntKind.wrap_u64]; omega
              have HQ := Lib.hid (show q = q' + 1 from by omega)
              have hq2 : q' ≤ 4294967296 := by omega
              clear hG2 hq' h0q hq1
              by_cases hbr : (4294967296 : Int) ≤ (r' : Int)
              · have HF := Lib.hid (Knuth.stop' y0h d0h hu' HG2.out hq2 (by simp only [Knuth.h]; omega))
                clear hq2
                have hdq : (v * 4294967296 + d0) / Y = q' := by rw [HE.out.1]; exact HF.out.symm
                have hq0 : q' < 4294967296 := by rw [← hdq, HE.out.1]; exact Knuth.digit_lt (y1 := y1) (y0 := y0) d0h (by have := HE.out.1; show v < y1 * 4294967296 + y0; omega)
                have bE := Nat.div_add_mod (v * 4294967296 + d0) Y
                have bQ : (v * 4294967296 + d0) / Y = q' := hdq
                rw [bQ] at bE
                have bL := Nat.mod_lt (v * 4294967296 + d0) (show 0 < Y by omega)
                obtain ⟨R, RE⟩ : ∃ z, (v * 4294967296 + d0) % Y = z := ⟨_, rfl⟩
                rw [RE] at bE bL
                obtain ⟨bC, bCE⟩ : ∃ c, q' * Y % 18446744073709551616 = c := ⟨_, rfl⟩
                have b3 : IntKind.u64.wrap ((q' : Int) * (Y : Int)) = (bC : Int) := by rw [← Int.natCast_mul, IntKind.wrap_u64]; omega
                rw [Nat.mul_comm Y] at bE
                obtain ⟨bA, bAE⟩ : ∃ c, v * 4294967296 % 18446744073709551616 = c := ⟨_, rfl⟩
                have b1 : IntKind.u64.wrap ((v : Int) * 4294967296) = (bA : Int) := by rw [IntKind.wrap_u64]; omega
                obtain ⟨bB, bBE⟩ : ∃ c, (bA + d0) % 18446744073709551616 = c := ⟨_, rfl⟩
                have b2 : IntKind.u64.wrap ((bA : Int) + (d0 : Int)) = (bB : Int) := by rw [IntKind.wrap_u64]; omega
                have b4 : IntKind.u64.wrap ((bB : Int) - (bC : Int)) = (R : Int) := by
                  rw [IntKind.wrap_u64]
                  generalize q' * Y = P at *
                  omega
                have HR0' := Lib.hid RE
                clear bE bCE bAE bBE RE
                obtain ⟨Q1, hQ1⟩ : ∃ c : Nat, qa * 4294967296 = c := ⟨_, rfl⟩
                have c1 : IntKind.u64.wrap ((qa : Int) * 4294967296) = (Q1 : Int) := by rw [IntKind.wrap_u64]; omega
                obtain ⟨Q, hQ⟩ : ∃ c : Nat, Q1 + q' = c := ⟨_, rfl⟩
                have c2 : IntKind.u64.wrap ((Q1 : Int) + (q' : Int)) = (Q : Int) := by rw [IntKind.wrap_u64]; omega
                have HR : Hid (Q = d64q hi lo y ∧ R / 2 ^ s = d64r hi lo y) := by
                  show Q = (hi * 18446744073709551616 + lo) / y ∧ R / 2 ^ s = (hi * 18446744073709551616 + lo) % y
                  have e2 := Knuth.two u d1 d0 Y (by omega)
                  have el := HE.out.2
                  have eN : u * 18446744073709551616 + l = u * Knuth.h * Knuth.h + d1 * Knuth.h + d0 := Knuth.join u l d1 d0 el
                  rw [← eN] at e2
                  rw [← hbk.1, ← hbk.2, e2.1, e2.2]
                  have x1 : (u * Knuth.h + d1) / Y = qa := HD1.out
                  have x2 : (u * Knuth.h + d1) % Y = v := Hv.out
                  have x3 : (v * Knuth.h + d0) / Y = q' := hdq
                  have x4 : (v * Knuth.h + d0) % Y = R := HR0'.out
                  rw [x1, x2, x3, x4]
                  refine ⟨?_, rfl⟩
                  show Q = qa * 4294967296 + q'
                  rw [← hQ, ← hQ1]
                clear hQ hQ1 hdq hq0 bQ
                go_wp2_with fail
                exact bodyPost_ret (v := .tuple #[.int .u64 (Q : Nat), .int .u64 ((R : Int) / 2 ^ s)]) (by simp [results, Try.results78]) rfl ⟨by rw [int_shr, HR.out.1, HR.out.2], hB⟩
              · clear hq2
                go_wp2_with fail
                go_roundw
                case rel => exact ⟨by first | trivial | rfl, q', r', rfl, rfl, by omega, HG2⟩
                case measure => have := HQ.out; simp [intOf]; omega
            · by_cases hB : k < m
              · have HT : Hid (Knuth.h ≤ q ∨ k < m) := .inr hB
                have t1 : ¬ (4294967296 : Int) ≤ (q : Int) := by omega
                have t2 : (k : Int) < (m : Int) := by omega
                clear hA hB
                obtain ⟨h0q, hG2⟩ := HH.out (HT.out)
                obtain ⟨q', hq'⟩ : ∃ q', q - 1 = q' := ⟨_, rfl⟩
                rw [hq'] at hG2
                have HG2 := Lib.hid hG2
                have e4 : IntKind.u64.wrap ((q : Int) - 1) = (q' : Int) := by rw [IntKind.wrap_u64]; omega
                have HQ := Lib.hid (show q = q' + 1 from by omega)
                have hq2 : q' ≤ 4294967296 := by omega
                clear hG2 hq' h0q hq1
                by_cases hbr : (4294967296 : Int) ≤ (r' : Int)
                · have HF := Lib.hid (Knuth.stop' y0h d0h hu' HG2.out hq2 (by simp only [Knuth.h]; omega))
                  clear hq2
                  have hdq : (v * 4294967296 + d0) / Y = q' := by rw [HE.out.1]; exact HF.out.symm
                  have hq0 : q' < 4294967296 := by rw [← hdq, HE.out.1]; exact Knuth.digit_lt (y1 := y1) (y0 := y0) d0h (by have := HE.out.1; show v < y1 * 4294967296 + y0; omega)
                  have bE := Nat.div_add_mod (v * 4294967296 + d0) Y
                  have bQ : (v * 4294967296 + d0) / Y = q' := hdq
                  rw [bQ] at bE
                  have bL := Nat.mod_lt (v * 4294967296 + d0) (show 0 < Y by omega)
                  obtain ⟨R, RE⟩ : ∃ z, (v * 4294967296 + d0) % Y = z := ⟨_, rfl⟩
                  rw [RE] at bE bL
                  obtain ⟨bC, bCE⟩ : ∃ c, q' * Y % 18446744073709551616 = c := ⟨_, rfl⟩
                  have b3 : IntKind.u64.wrap ((q' : Int) * (Y : Int)) = (bC : Int) := by rw [← Int.natCast_mul, IntKind.wrap_u64]; omega
                  rw [Nat.mul_comm Y] at bE
                  obtain ⟨bA, bAE⟩ : ∃ c, v * 4294967296 % 18446744073709551616 = c := ⟨_, rfl⟩
                  have b1 : IntKind.u64.wrap ((v : Int) * 4294967296) = (bA : Int) := by rw [IntKind.wrap_u64]; omega
                  obtain ⟨bB, bBE⟩ : ∃ c, (bA + d0) % 18446744073709551616 = c := ⟨_, rfl⟩
                  have b2 : IntKind.u64.wrap ((bA : Int) + (d0 : Int)) = (bB : Int) := by rw [IntKind.wrap_u64]; omega
                  have b4 : IntKind.u64.wrap ((bB : Int) - (bC : Int)) = (R : Int) := by
                    rw [IntKind.wrap_u64]
                    generalize q' * Y = P at *
                    omega
                  have HR0' := Lib.hid RE
                  clear bE bCE bAE bBE RE
                  obtain ⟨Q1, hQ1⟩ : ∃ c : Nat, qa * 4294967296 = c := ⟨_, rfl⟩
                  have c1 : IntKind.u64.wrap ((qa : Int) * 4294967296) = (Q1 : Int) := by rw [IntKind.wrap_u64]; omega
                  obtain ⟨Q, hQ⟩ : ∃ c : Nat, Q1 + q' = c := ⟨_, rfl⟩
                  have c2 : IntKind.u64.wrap ((Q1 : Int) + (q' : Int)) = (Q : Int) := by rw [IntKind.wrap_u64]; omega
                  have HR : Hid (Q = d64q hi lo y ∧ R / 2 ^ s = d64r hi lo y) := by
                    show Q = (hi * 18446744073709551616 + lo) / y ∧ R / 2 ^ s = (hi * 18446744073709551616 + lo) % y
                    have e2 := Knuth.two u d1 d0 Y (by omega)
                    have el := HE.out.2
                    have eN : u * 18446744073709551616 + l = u * Knuth.h * Knuth.h + d1 * Knuth.h + d0 := Knuth.join u l d1 d0 el
                    rw [← eN] at e2
                    rw [← hbk.1, ← hbk.2, e2.1, e2.2]
                    have x1 : (u * Knuth.h + d1) / Y = qa := HD1.out
                    have x2 : (u * Knuth.h + d1) % Y = v := Hv.out
                    have x3 : (v * Knuth.h + d0) / Y = q' := hdq
                    have x4 : (v * Knuth.h + d0) % Y = R := HR0'.out
                    rw [x1, x2, x3, x4]
                    refine ⟨?_, rfl⟩
                    show Q = qa * 4294967296 + q'
                    rw [← hQ, ← hQ1]
                  clear hQ hQ1 hdq hq0 bQ
                  go_wp2_with fail
                  exact bodyPost_ret (v := .tuple #[.int .u64 (Q : Nat), .int .u64 ((R : Int) / 2 ^ s)]) (by simp [results, Try.results78]) rfl ⟨by rw [int_shr, HR.out.1, HR.out.2], hB⟩
                · clear hq2
                  go_wp2_with fail
                  go_roundw
                  case rel => exact ⟨by first | trivial | rfl, q', r', rfl, rfl, by omega, HG2⟩
                  case measure => have := HQ.out; simp [intOf]; omega
              · have HF := Lib.hid (HS.out (by simp only [Knuth.h]; omega) (by omega))
                have t1 : ¬ (4294967296 : Int) ≤ (q : Int) := by omega
                have t2 : ¬ (k : Int) < (m : Int) := by omega
                clear hA hB hq1
                have hdq : (v * 4294967296 + d0) / Y = q := by rw [HE.out.1]; exact HF.out.symm
                have hq0 : q < 4294967296 := by rw [← hdq, HE.out.1]; exact Knuth.digit_lt (y1 := y1) (y0 := y0) d0h (by have := HE.out.1; show v < y1 * 4294967296 + y0; omega)
                have bE := Nat.div_add_mod (v * 4294967296 + d0) Y
                have bQ : (v * 4294967296 + d0) / Y = q := hdq
                rw [bQ] at bE
                have bL := Nat.mod_lt (v * 4294967296 + d0) (show 0 < Y by omega)
                obtain ⟨R, RE⟩ : ∃ z, (v * 4294967296 + d0) % Y = z := ⟨_, rfl⟩
                rw [RE] at bE bL
                obtain ⟨bC, bCE⟩ : ∃ c, q * Y % 18446744073709551616 = c := ⟨_, rfl⟩
                have b3 : IntKind.u64.wrap ((q : Int) * (Y : Int)) = (bC : Int) := by rw [← Int.natCast_mul, IntKind.wrap_u64]; omega
                rw [Nat.mul_comm Y] at bE
                obtain ⟨bA, bAE⟩ : ∃ c, v * 4294967296 % 18446744073709551616 = c := ⟨_, rfl⟩
                have b1 : IntKind.u64.wrap ((v : Int) * 4294967296) = (bA : Int) := by rw [IntKind.wrap_u64]; omega
                obtain ⟨bB, bBE⟩ : ∃ c, (bA + d0) % 18446744073709551616 = c := ⟨_, rfl⟩
                have b2 : IntKind.u64.wrap ((bA : Int) + (d0 : Int)) = (bB : Int) := by rw [IntKind.wrap_u64]; omega
                have b4 : IntKind.u64.wrap ((bB : Int) - (bC : Int)) = (R : Int) := by
                  rw [IntKind.wrap_u64]
                  generalize q * Y = P at *
                  omega
                have HR0' := Lib.hid RE
                clear bE bCE bAE bBE RE
                obtain ⟨Q1, hQ1⟩ : ∃ c : Nat, qa * 4294967296 = c := ⟨_, rfl⟩
                have c1 : IntKind.u64.wrap ((qa : Int) * 4294967296) = (Q1 : Int) := by rw [IntKind.wrap_u64]; omega
                obtain ⟨Q, hQ⟩ : ∃ c : Nat, Q1 + q = c := ⟨_, rfl⟩
                have c2 : IntKind.u64.wrap ((Q1 : Int) + (q : Int)) = (Q : Int) := by rw [IntKind.wrap_u64]; omega
                have HR : Hid (Q = d64q hi lo y ∧ R / 2 ^ s = d64r hi lo y) := by
                  show Q = (hi * 18446744073709551616 + lo) / y ∧ R / 2 ^ s = (hi * 18446744073709551616 + lo) % y
                  have e2 := Knuth.two u d1 d0 Y (by omega)
                  have el := HE.out.2
                  have eN : u * 18446744073709551616 + l = u * Knuth.h * Knuth.h + d1 * Knuth.h + d0 := Knuth.join u l d1 d0 el
                  rw [← eN] at e2
                  rw [← hbk.1, ← hbk.2, e2.1, e2.2]
                  have x1 : (u * Knuth.h + d1) / Y = qa := HD1.out
                  have x2 : (u * Knuth.h + d1) % Y = v := Hv.out
                  have x3 : (v * Knuth.h + d0) / Y = q := hdq
                  have x4 : (v * Knuth.h + d0) % Y = R := HR0'.out
                  rw [x1, x2, x3, x4]
                  refine ⟨?_, rfl⟩
                  show Q = qa * 4294967296 + q
                  rw [← hQ, ← hQ1]
                clear hQ hQ1 hdq hq0 bQ
                go_wp2_with fail
                exact bodyPost_ret (v := .tuple #[.int .u64 (Q : Nat), .int .u64 ((R : Int) / 2 ^ s)]) (by simp [results, Try.results78]) rfl ⟨by rw [int_shr, HR.out.1, HR.out.2], hB⟩
        · clear hq2
          go_wp2_with fail
          go_roundw
          case rel => exact ⟨by first | trivial | rfl, q', r', rfl, rfl, by omega, HG2⟩
          case measure => have := HQ.out; simp [intOf]; omega
      · have HF := Lib.hid (HS.out (by simp only [Knuth.h]; omega) (by omega))
        have t1 : ¬ (4294967296 : Int) ≤ (q : Int) := by omega
        have t2 : ¬ (k : Int) < (m : Int) := by omega
        clear hA hB hq1
        have hdq1 : (u * 4294967296 + d1) / Y = q := by rw [HE.out.1]; exact HF.out.symm
        have hq1h : q < 4294967296 := by rw [← hdq1, HE.out.1]; exact Knuth.digit_lt (y1 := y1) (y0 := y0) d1h hu'
        have HD1 := Lib.hid hdq1
        have aE := Nat.div_add_mod (u * 4294967296 + d1) Y
        have aQ : (u * 4294967296 + d1) / Y = q := hdq1
        rw [aQ] at aE
        have aL := Nat.mod_lt (u * 4294967296 + d1) (show 0 < Y by omega)
        obtain ⟨v, vE⟩ : ∃ z, (u * 4294967296 + d1) % Y = z := ⟨_, rfl⟩
        rw [vE] at aE aL
        obtain ⟨aC, aCE⟩ : ∃ c, q * Y % 18446744073709551616 = c := ⟨_, rfl⟩
        have a3 : IntKind.u64.wrap ((q : Int) * (Y : Int)) = (aC : Int) := by rw [← Int.natCast_mul, IntKind.wrap_u64]; omega
        rw [Nat.mul_comm Y] at aE
        obtain ⟨aA, aAE⟩ : ∃ c, u * 4294967296 % 18446744073709551616 = c := ⟨_, rfl⟩
        have a1 : IntKind.u64.wrap ((u : Int) * 4294967296) = (aA : Int) := by rw [IntKind.wrap_u64]; omega
        obtain ⟨aB, aBE⟩ : ∃ c, (aA + d1) % 18446744073709551616 = c := ⟨_, rfl⟩
        have a2 : IntKind.u64.wrap ((aA : Int) + (d1 : Int)) = (aB : Int) := by rw [IntKind.wrap_u64]; omega
        have a4 : IntKind.u64.wrap ((aB : Int) - (aC : Int)) = (v : Int) := by
          rw [IntKind.wrap_u64]
          generalize q * Y = P at *
          omega
        have Hv := Lib.hid vE
        clear aE aCE aAE aBE vE
        have hvY : v < Y := aL
        clear aQ hdq1 aL HF
        obtain ⟨qa, rfl⟩ : ∃ c, c = q := ⟨_, rfl⟩
        have G := Knuth.first (u := v) (d := d0) y1a y1b y0h d0h (by have := HE.out.1; show v < y1 * 4294967296 + y0; omega)
        have hq1 := G.le
        have hq2 := G.sum
        have hr1 := Nat.mod_lt v (show 0 < y1 by omega)
        have f8 : (v : Int).tdiv y1 = ((v / y1 : Nat) : Int) := rfl
        have f8' : (v : Int) / y1 = ((v / y1 : Nat) : Int) := rfl
        generalize v / y1 = q0 at *
        generalize v % y1 = r0 at *
        have hqy : ((q0 * y1 : Nat) : Int) = (q0 : Int) * (y1 : Int) := Int.natCast_mul _ _
        have f9 : IntKind.u64.wrap ((q0 : Int) * (y1 : Int)) = ((q0 * y1 : Nat) : Int) := by rw [IntKind.wrap_u64, ← hqy]; omega
        have f10 : IntKind.u64.wrap ((v : Int) - ((q0 * y1 : Nat) : Int)) = (r0 : Int) := by rw [IntKind.wrap_u64]; omega
        have f11 : IntKind.u64.wrap (q0 : Int) = (q0 : Int) := by rw [IntKind.wrap_u64]; simp only [Knuth.h] at hq1; omega
        generalize hqq : q0 * y1 = qy at *
        clear hqy hqq hq2
        go_wp2_with fail
        clear f8 f8' f9 f10 f11 a1 a2 a3 a4 e1 e2 e3 e5
        have hr2' : r0 < 4294967296 := by omega
        have HG' := Lib.hid G
        clear G hq1 hr1 HG hr2 HH HS
        have hr2 := hr2'
        have HG := HG'
        clear hr2' HG'
        go_loopw [16, 18] (fun a b wr => wr = w ∧ ∃ q r : Nat, b = .int .u64 q ∧ a = .int .u64 r ∧ r < 4294967296 ∧ Hid (Knuth.Guess y1 y0 v d0 q r)) (fun a b _ => (intOf b).toNat)
        case atStart => exact ⟨rfl, _, _, rfl, rfl, hr2, HG⟩
        case round =>
          clear HG hr2
          obtain ⟨e0, q, r, rfl, rfl, hr2, HG⟩ := hrel
          have e0' := e0.symm
          clear e0
          subst e0'
          have hu' : v < y1 * Knuth.h + y0 := by have := HE.out.1; show v < y1 * 4294967296 + y0; omega
          have hq1 : q ≤ 4294967297 := HG.out.le
          obtain ⟨m, hm⟩ : ∃ m : Nat, q * y0 = m := ⟨_, rfl⟩
          have hm1 : m ≤ 4294967297 * 4294967295 := by rw [← hm]; exact Nat.mul_le_mul hq1 (by omega)
          have e1 : IntKind.u64.wrap ((q : Int) * (y0 : Int)) = (m : Int) := by
            rw [← Int.natCast_mul, hm, IntKind.wrap_u64]; omega
          obtain ⟨k0, hk0⟩ : ∃ k : Nat, 4294967296 * r = k := ⟨_, rfl⟩
          have e2 : IntKind.u64.wrap (4294967296 * (r : Int)) = (k0 : Int) := by rw [IntKind.wrap_u64]; omega
          obtain ⟨k, hk⟩ : ∃ k : Nat, k0 + d0 = k := ⟨_, rfl⟩
          have e3 : IntKind.u64.wrap ((k0 : Int) + (d0 : Int)) = (k : Int) := by rw [IntKind.wrap_u64]; omega
          have hkk : Knuth.h * r + d0 = k := by simp only [Knuth.h]; omega
          have hdn : Knuth.h ≤ q ∨ k < m → 0 < q ∧ Knuth.Guess y1 y0 v d0 (q - 1) (r + y1) := fun ht => Knuth.down d0h hu' HG.out (by rw [hkk, hm]; exact ht)
          have hst : q < Knuth.h → m ≤ k → q = (v * Knuth.h + d0) / (y1 * Knuth.h + y0) := fun h1 h2 => Knuth.stop d0h hu' HG.out h1 (by rw [hkk, hm]; exact h2)
          obtain ⟨r', hr'⟩ : ∃ r', r + y1 = r' := ⟨_, rfl⟩
          have e5 : IntKind.u64.wrap ((r : Int) + (y1 : Int)) = (r' : Int) := by rw [IntKind.wrap_u64]; omega
          have hr3 : r' < 18446744073709551616 := by omega
          rw [hr'] at hdn
          have HH := Lib.hid hdn
          have HS := Lib.hid hst
          have hq64 : (q : Int) < 18446744073709551616 := by omega
          clear hm hk0 hk hkk hdn hst hm1 hr'
          by_cases hA : 4294967296 ≤ q
          · have HT : Hid (Knuth.h ≤ q ∨ k < m) := .inl hA
            have t1 : decide ((q : Int) ≥ 4294967296) = true := decide_eq_true (by omega)
            have t1' : (4294967296 : Int) ≤ (q : Int) := by omega
            clear hA
            obtain ⟨h0q, hG2⟩ := HH.out (HT.out)
            obtain ⟨q', hq'⟩ : ∃ q', q - 1 = q' := ⟨_, rfl⟩
            rw [hq'] at hG2
            have HG2 := Lib.hid hG2
            have e4 : IntKind.u64.wrap ((q : Int) - 1) = (q' : Int) := by rw [IntKind.wrap_u64]; omega
            have HQ := Lib.hid (show q = q' + 1 from by omega)
            have hq2 : q' ≤ 4294967296 := by omega
            clear hG2 hq' h0q hq1
            by_cases hbr : (4294967296 : Int) ≤ (r' : Int)
            · have HF := Lib.hid (Knuth.stop' y0h d0h hu' HG2.out hq2 (by simp only [Knuth.h]; omega))
              clear hq2
              have hdq : (v * 4294967296 + d0) / Y = q' := by rw [HE.out.1]; exact HF.out.symm
              have hq0 : q' < 4294967296 := by rw [← hdq, HE.out.1]; exact Knuth.digit_lt (y1 := y1) (y0 := y0) d0h (by have := HE.out.1; show v < y1 * 4294967296 + y0; omega)
              have bE := Nat.div_add_mod (v * 4294967296 + d0) Y
              have bQ : (v * 4294967296 + d0) / Y = q' := hdq
              rw [bQ] at bE
              have bL := Nat.mod_lt (v * 4294967296 + d0) (show 0 < Y by omega)
              obtain ⟨R, RE⟩ : ∃ z, (v * 4294967296 + d0) % Y = z := ⟨_, rfl⟩
              rw [RE] at bE bL
              obtain ⟨bC, bCE⟩ : ∃ c, q' * Y % 18446744073709551616 = c := ⟨_, rfl⟩
              have b3 : IntKind.u64.wrap ((q' : Int) * (Y : Int)) = (bC : Int) := by rw [← Int.natCast_mul, IntKind.wrap_u64]; omega
              rw [Nat.mul_comm Y] at bE
              obtain ⟨bA, bAE⟩ : ∃ c, v * 4294967296 % 18446744073709551616 = c := ⟨_, rfl⟩
              have b1 : IntKind.u64.wrap ((v : Int) * 4294967296) = (bA : Int) := by rw [IntKind.wrap_u64]; omega
              obtain ⟨bB, bBE⟩ : ∃ c, (bA + d0) % 18446744073709551616 = c := ⟨_, rfl⟩
              have b2 : IntKind.u64.wrap ((bA : Int) + (d0 : Int)) = (bB : Int) := by rw [IntKind.wrap_u64]; omega
              have b4 : IntKind.u64.wrap ((bB : Int) - (bC : Int)) = (R : Int) := by
                rw [IntKind.wrap_u64]
                generalize q' * Y = P at *
                omega
              have HR0' := Lib.hid RE
              clear bE bCE bAE bBE RE
              obtain ⟨Q1, hQ1⟩ : ∃ c : Nat, qa * 4294967296 = c := ⟨_, rfl⟩
              have c1 : IntKind.u64.wrap ((qa : Int) * 4294967296) = (Q1 : Int) := by rw [IntKind.wrap_u64]; omega
              obtain ⟨Q, hQ⟩ : ∃ c : Nat, Q1 + q' = c := ⟨_, rfl⟩
              have c2 : IntKind.u64.wrap ((Q1 : Int) + (q' : Int)) = (Q : Int) := by rw [IntKind.wrap_u64]; omega
              have HR : Hid (Q = d64q hi lo y ∧ R / 2 ^ s = d64r hi lo y) := by
                show Q = (hi * 18446744073709551616 + lo) / y ∧ R / 2 ^ s = (hi * 18446744073709551616 + lo) % y
                have e2 := Knuth.two u d1 d0 Y (by omega)
                have el := HE.out.2
                have eN : u * 18446744073709551616 + l = u * Knuth.h * Knuth.h + d1 * Knuth.h + d0 := Knuth.join u l d1 d0 el
                rw [← eN] at e2
                rw [← hbk.1, ← hbk.2, e2.1, e2.2]
                have x1 : (u * Knuth.h + d1) / Y = qa := HD1.out
                have x2 : (u * Knuth.h + d1) % Y = v := Hv.out
                have x3 : (v * Knuth.h + d0) / Y = q' := hdq
                have x4 : (v * Knuth.h + d0) % Y = R := HR0'.out
                rw [x1, x2, x3, x4]
                refine ⟨?_, rfl⟩
                show Q = qa * 4294967296 + q'
                rw [← hQ, ← hQ1]
              clear hQ hQ1 hdq hq0 bQ
              go_wp2_with fail
              exact bodyPost_ret (v := .tuple #[.int .u64 (Q : Nat), .int .u64 ((R : Int) / 2 ^ s)]) (by simp [results, Try.results78]) rfl ⟨by rw [int_shr, HR.out.1, HR.out.2], hB⟩
            · clear hq2
              go_wp2_with fail
              go_roundw
              case rel => exact ⟨by first | trivial | rfl, q', r', rfl, rfl, by omega, HG2⟩
              case measure => have := HQ.out; simp [intOf]; omega
          · by_cases hB : k < m
            · have HT : Hid (Knuth.h ≤ q ∨ k < m) := .inr hB
              have t1 : ¬ (4294967296 : Int) ≤ (q : Int) := by omega
              have t2 : (k : Int) < (m : Int) := by omega
              clear hA hB
              obtain ⟨h0q, hG2⟩ := HH.out (HT.out)
              obtain ⟨q', hq'⟩ : ∃ q', q - 1 = q' := ⟨_, rfl⟩
              rw [hq'] at hG2
              have HG2 := Lib.hid hG2
              have e4 : IntKind.u64.wrap ((q : Int) - 1) = (q' : Int) := by rw [IntKind.wrap_u64]; omega
              have HQ := Lib.hid (show q = q' + 1 from by omega)
              have hq2 : q' ≤ 4294967296 := by omega
              clear hG2 hq' h0q hq1
              by_cases hbr : (4294967296 : Int) ≤ (r' : Int)
              · have HF := Lib.hid (Knuth.stop' y0h d0h hu' HG2.out hq2 (by simp only [Knuth.h]; omega))
                clear hq2
                have hdq : (v * 4294967296 + d0) / Y = q' := by rw [HE.out.1]; exact HF.out.symm
                have hq0 : q' < 4294967296 := by rw [← hdq, HE.out.1]; exact Knuth.digit_lt (y1 := y1) (y0 := y0) d0h (by have := HE.out.1; show v < y1 * 4294967296 + y0; omega)
                have bE := Nat.div_add_mod (v * 4294967296 + d0) Y
                have bQ : (v * 4294967296 + d0) / Y = q' := hdq
                rw [bQ] at bE
                have bL := Nat.mod_lt (v * 4294967296 + d0) (show 0 < Y by omega)
                obtain ⟨R, RE⟩ : ∃ z, (v * 4294967296 + d0) % Y = z := ⟨_, rfl⟩
                rw [RE] at bE bL
                obtain ⟨bC, bCE⟩ : ∃ c, q' * Y % 18446744073709551616 = c := ⟨_, rfl⟩
                have b3 : IntKind.u64.wrap ((q' : Int) * (Y : Int)) = (bC : Int) := by rw [← Int.natCast_mul, IntKind.wrap_u64]; omega
                rw [Nat.mul_comm Y] at bE
                obtain ⟨bA, bAE⟩ : ∃ c, v * 4294967296 % 18446744073709551616 = c := ⟨_, rfl⟩
                have b1 : IntKind.u64.wrap ((v : Int) * 4294967296) = (bA : Int) := by rw [IntKind.wrap_u64]; omega
                obtain ⟨bB, bBE⟩ : ∃ c, (bA + d0) % 18446744073709551616 = c := ⟨_, rfl⟩
                have b2 : IntKind.u64.wrap ((bA : Int) + (d0 : Int)) = (bB : Int) := by rw [IntKind.wrap_u64]; omega
                have b4 : IntKind.u64.wrap ((bB : Int) - (bC : Int)) = (R : Int) := by
                  rw [IntKind.wrap_u64]
                  generalize q' * Y = P at *
                  omega
                have HR0' := Lib.hid RE
                clear bE bCE bAE bBE RE
                obtain ⟨Q1, hQ1⟩ : ∃ c : Nat, qa * 4294967296 = c := ⟨_, rfl⟩
                have c1 : IntKind.u64.wrap ((qa : Int) * 4294967296) = (Q1 : Int) := by rw [IntKind.wrap_u64]; omega
                obtain ⟨Q, hQ⟩ : ∃ c : Nat, Q1 + q' = c := ⟨_, rfl⟩
                have c2 : IntKind.u64.wrap ((Q1 : Int) + (q' : Int)) = (Q : Int) := by rw [IntKind.wrap_u64]; omega
                have HR : Hid (Q = d64q hi lo y ∧ R / 2 ^ s = d64r hi lo y) := by
                  show Q = (hi * 18446744073709551616 + lo) / y ∧ R / 2 ^ s = (hi * 18446744073709551616 + lo) % y
                  have e2 := Knuth.two u d1 d0 Y (by omega)
                  have el := HE.out.2
                  have eN : u * 18446744073709551616 + l = u * Knuth.h * Knuth.h + d1 * Knuth.h + d0 := Knuth.join u l d1 d0 el
                  rw [← eN] at e2
                  rw [← hbk.1, ← hbk.2, e2.1, e2.2]
                  have x1 : (u * Knuth.h + d1) / Y = qa := HD1.out
                  have x2 : (u * Knuth.h + d1) % Y = v := Hv.out
                  have x3 : (v * Knuth.h + d0) / Y = q' := hdq
                  have x4 : (v * Knuth.h + d0) % Y = R := HR0'.out
                  rw [x1, x2, x3, x4]
                  refine ⟨?_, rfl⟩
                  show Q = qa * 4294967296 + q'
                  rw [← hQ, ← hQ1]
                clear hQ hQ1 hdq hq0 bQ
                go_wp2_with fail
                exact bodyPost_ret (v := .tuple #[.int .u64 (Q : Nat), .int .u64 ((R : Int) / 2 ^ s)]) (by simp [results, Try.results78]) rfl ⟨by rw [int_shr, HR.out.1, HR.out.2], hB⟩
              · clear hq2
                go_wp2_with fail
                go_roundw
                case rel => exact ⟨by first | trivial | rfl, q', r', rfl, rfl, by omega, HG2⟩
                case measure => have := HQ.out; simp [intOf]; omega
            · have HF := Lib.hid (HS.out (by simp only [Knuth.h]; omega) (by omega))
              have t1 : ¬ (4294967296 : Int) ≤ (q : Int) := by omega
              have t2 : ¬ (k : Int) < (m : Int) := by omega
              clear hA hB hq1
              have hdq : (v * 4294967296 + d0) / Y = q := by rw [HE.out.1]; exact HF.out.symm
              have hq0 : q < 4294967296 := by rw [← hdq, HE.out.1]; exact Knuth.digit_lt (y1 := y1) (y0 := y0) d0h (by have := HE.out.1; show v < y1 * 4294967296 + y0; omega)
              have bE := Nat.div_add_mod (v * 4294967296 + d0) Y
              have bQ : (v * 4294967296 + d0) / Y = q := hdq
              rw [bQ] at bE
              have bL := Nat.mod_lt (v * 4294967296 + d0) (show 0 < Y by omega)
              obtain ⟨R, RE⟩ : ∃ z, (v * 4294967296 + d0) % Y = z := ⟨_, rfl⟩
              rw [RE] at bE bL
              obtain ⟨bC, bCE⟩ : ∃ c, q * Y % 18446744073709551616 = c := ⟨_, rfl⟩
              have b3 : IntKind.u64.wrap ((q : Int) * (Y : Int)) = (bC : Int) := by rw [← Int.natCast_mul, IntKind.wrap_u64]; omega
              rw [Nat.mul_comm Y] at bE
              obtain ⟨bA, bAE⟩ : ∃ c, v * 4294967296 % 18446744073709551616 = c := ⟨_, rfl⟩
              have b1 : IntKind.u64.wrap ((v : Int) * 4294967296) = (bA : Int) := by rw [IntKind.wrap_u64]; omega
              obtain ⟨bB, bBE⟩ : ∃ c, (bA + d0) % 18446744073709551616 = c := ⟨_, rfl⟩
              have b2 : IntKind.u64.wrap ((bA : Int) + (d0 : Int)) = (bB : Int) := by rw [IntKind.wrap_u64]; omega
              have b4 : IntKind.u64.wrap ((bB : Int) - (bC : Int)) = (R : Int) := by
                rw [IntKind.wrap_u64]
                generalize q * Y = P at *
                omega
              have HR0' := Lib.hid RE
              clear bE bCE bAE bBE RE
              obtain ⟨Q1, hQ1⟩ : ∃ c : Nat, qa * 4294967296 = c := ⟨_, rfl⟩
              have c1 : IntKind.u64.wrap ((qa : Int) * 4294967296) = (Q1 : Int) := by rw [IntKind.wrap_u64]; omega
              obtain ⟨Q, hQ⟩ : ∃ c : Nat, Q1 + q = c := ⟨_, rfl⟩
              have c2 : IntKind.u64.wrap ((Q1 : Int) + (q : Int)) = (Q : Int) := by rw [IntKind.wrap_u64]; omega
              have HR : Hid (Q = d64q hi lo y ∧ R / 2 ^ s = d64r hi lo y) := by
                show Q = (hi * 18446744073709551616 + lo) / y ∧ R / 2 ^ s = (hi * 18446744073709551616 + lo) % y
                have e2 := Knuth.two u d1 d0 Y (by omega)
                have el := HE.out.2
                have eN : u * 18446744073709551616 + l = u * Knuth.h * Knuth.h + d1 * Knuth.h + d0 := Knuth.join u l d1 d0 el
                rw [← eN] at e2
                rw [← hbk.1, ← hbk.2, e2.1, e2.2]
                have x1 : (u * Knuth.h + d1) / Y = qa := HD1.out
                have x2 : (u * Knuth.h + d1) % Y = v := Hv.out
                have x3 : (v * Knuth.h + d0) / Y = q := hdq
                have x4 : (v * Knuth.h + d0) % Y = R := HR0'.out
                rw [x1, x2, x3, x4]
                refine ⟨?_, rfl⟩
                show Q = qa * 4294967296 + q
                rw [← hQ, ← hQ1]
              clear hQ hQ1 hdq hq0 bQ
              go_wp2_with fail
              exact bodyPost_ret (v := .tuple #[.int .u64 (Q : Nat), .int .u64 ((R : Int) / 2 ^ s)]) (by simp [results, Try.results78]) rfl ⟨by rw [int_shr, HR.out.1, HR.out.2], hB⟩
end Go.Proofs.Ytioohgocbpdkeaa
