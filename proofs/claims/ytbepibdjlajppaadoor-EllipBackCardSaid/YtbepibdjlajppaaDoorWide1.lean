
/-
  The walks of parts, bits, cmp: how many digits, how many bits, which is greater.
-/
import Derived.Test.YtbepibdjlajppaaDoorRow
import Derived.Test.YtbepibdjlajppaaDoorBits
import Derived.BigQuiet
import Derived.Deep.QuietTactic
set_option linter.unusedVariables false
namespace Go.Proofs.YtbepibdjlajppaaDoor
open Go.RowKit

/-- How many digits of the first n there are up to the last one that is not 0. -/
def ndTo (v : Nat) : Nat → Nat
  | 0 => 0
  | n + 1 => if dg v n = 0 then ndTo v n else n + 1
def nd (v : Nat) : Nat := ndTo v 16
theorem ndTo_le (v n : Nat) : ndTo v n ≤ n := by
  induction n with
  | zero => exact Nat.le_refl _
  | succ n ih => unfold ndTo; split <;> omega
theorem nd_le (v : Nat) : nd v ≤ 16 := ndTo_le v 16

theorem parts_any (g o v : Nat) (w : World) (hd : Digs w g o v) :
    Calls Tryd.prog 59 #[.pointer (some ⟨g, o, none⟩)] w fun e w' => e = .returned (.int .i64 (nd v)) ∧ w = w' := by
  have HD := Lib.hid hd
  clear hd
  have hle := nd_le v
  go_enter Tryd.func59, Tryd.ntmps59
  go_wp2
  go_loopw [3] (fun i wr => wr = w ∧ ∃ n : Nat, n ≤ 16 ∧ i = .int .i64 n ∧ ndTo v n = nd v) (fun i _ => (intOf i).toNat)
  case atStart => exact ⟨rfl, 16, Nat.le_refl _, rfl, rfl⟩
  case round =>
    obtain ⟨rfl, n, hn, rfl, hq⟩ := hrel
    match n, hn, hq with
    | 0, hn, hq =>
      have hq' : nd v = 0 := hq.symm
      go_wp2_with fail
      go_ret
      exact ⟨by rw [hq']; rfl, rfl⟩
    | n + 1, hn, hq =>
      have hc := HD.out n (by omega)
      have e1 : ((n + 1 : Nat) : Int) - 1 = n := by omega
      by_cases hz : dg v n = 0
      · have hq2 : ndTo v n = nd v := by rw [← hq]; rw [ndTo, if_pos hz]
        rw [hz] at hc
        go_wp2_with fail
        go_roundw
        case rel => exact ⟨by first | trivial | rfl, n, by omega, by go_num, hq2⟩
        case measure => simp [intOf]
      · have hq2 : nd v = n + 1 := by rw [← hq]; rw [ndTo, if_neg hz]
        go_wp2_with fail
        go_ret
        exact ⟨by rw [hq2]; rfl, rfl⟩

/-- The bits of a digit. -/
def lb (n : Nat) : Nat := Lib.bitLen n
theorem lb_le (n : Nat) (h : n < 18446744073709551616) : lb n ≤ 64 := Lib.bitLen_le n 64 (Nat.le_refl _) h

/-- bits.Len64, as a walk meets it. -/
theorem len64_any (n : Nat) (hn : n < 18446744073709551616) (w : World) : Calls Tryd.prog 52 #[.int .u64 n] w fun e w' => e = .returned (.int .i64 (lb n)) ∧ w = w' :=
  (Tryd.bits_Len64 n w (by omega) (by omega)).mono fun e w' h => ⟨h.1, h.2.symm⟩

/-- How many bits. -/
def bl (v : Nat) : Nat := if nd v = 0 then 0 else 64 * (nd v - 1) + lb (dg v (nd v - 1))

theorem bits_any (g o v : Nat) (w : World) (hd : Digs w g o v) :
    Calls Tryd.prog 78 #[.pointer (some ⟨g, o, none⟩)] w fun e w' => e = .returned (.int .i64 (bl v)) ∧ w = w' := by
  have HD := Lib.hid hd
  clear hd
  have hle := nd_le v
  go_enter Tryd.func78, Tryd.ntmps78
  go_wp2_with fail
  refine (parts_any g o v _ HD.out).mono ?_
  rintro e w' ⟨rfl, rfl⟩
  by_cases hz : nd v = 0
  · have hb : bl v = 0 := by unfold bl; rw [if_pos hz]
    rw [hz]
    go_wp2_with fail
    go_ret
    exact ⟨by rw [hb]; rfl, rfl⟩
  · obtain ⟨n, hn⟩ : ∃ n, nd v = n + 1 := ⟨nd v - 1, by omega⟩
    have hb : bl v = 64 * n + lb (dg v n) := by unfold bl; rw [if_neg hz, hn]; rfl
    rw [hn]
    have e1 : ((n + 1 : Nat) : Int) - 1 = n := by omega
    have hc := HD.out n (by omega)
    have hlt := dg_lt v n
    have hlb := lb_le _ hlt
    have hw : wrap64 (64 * (n : Int) + (lb (dg v n) : Int)) = ((64 * n + lb (dg v n) : Nat) : Int) := by unfold wrap64; omega
    go_wp2_with fail
    refine (len64_any _ hlt _).mono ?_
    rintro e w' ⟨rfl, rfl⟩
    go_wp2_with fail
    go_ret
    exact ⟨by rw [hb]; exact ret_int (by omega), rfl⟩

/-- Which is greater. -/
def cm (a b : Nat) : Int := if a < b then -1 else if b < a then 1 else 0

theorem cmp_any (g o a h p b : Nat) (w : World) (hd : Digs w g o a) (he : Digs w h p b) (ha : a < Bs ^ 16) (hb : b < Bs ^ 16) :
    Calls Tryd.prog 76 #[.pointer (some ⟨g, o, none⟩), .pointer (some ⟨h, p, none⟩)] w fun e w' => e = .returned (.int .i64 (cm a b)) ∧ Below w.heap.size w w' ∧ w.heap.size = w'.heap.size := by
  have HD := Lib.hid hd
  have HE := Lib.hid he
  clear hd he
  go_enter Tryd.func76, Tryd.ntmps76
  go_wp2
  go_loopw [5] (fun i wr => (∃ n : Nat, n ≤ 16 ∧ i = .int .i64 (n - 1) ∧ a / Bs ^ n = b / Bs ^ n) ∧ Below w.heap.size w wr ∧ w.heap.size = wr.heap.size) (fun i _ => (intOf i + 1).toNat)
  case atStart => exact ⟨⟨16, by omega, rfl, by rw [Nat.div_eq_of_lt ha, Nat.div_eq_of_lt hb]⟩, Below.refl _ _, rfl⟩
  case round =>
    obtain ⟨⟨n, hn, rfl, hq⟩, hbel, hsz⟩ := hrel
    match n, hn, hq with
    | 0, hn, hq =>
      simp only [Nat.pow_zero, Nat.div_one] at hq
      have hc : cm a b = 0 := by unfold cm; rw [if_neg (by omega), if_neg (by omega)]
      go_wp2_with fail
      go_ret
      exact ⟨by rw [hc]; rfl, hbel, hsz⟩
    | n + 1, hn, hq =>
      have e1 : ((n + 1 : Nat) : Int) - 1 = n := by omega
      rw [e1]
      have c1 : wr.cell? ⟨g, o + n, none⟩ = some (.int .u64 ((dg a n : Nat) : Int)) := (hbel.cell (p := ⟨g, o + n, none⟩) HD.out.lt).trans (HD.out n (by omega))
      have c2 : wr.cell? ⟨h, p + n, none⟩ = some (.int .u64 ((dg b n : Nat) : Int)) := (hbel.cell (p := ⟨h, p + n, none⟩) HE.out.lt).trans (HE.out n (by omega))
      have s1 := dg_step a n
      have s2 := dg_step b n
      rw [hq] at s1
      have hbel1 : Below w.heap.size w wr.drew := hbel.drew
      by_cases hlt : dg a n < dg b n
      · have hcm : cm a b = -1 := by
          unfold cm
          have key : a < b := Nat.lt_of_div_lt_div (c := Bs ^ n) (by omega)
          rw [if_pos key]
        clear s1 s2 hq
        have hlt' : ((dg a n : Nat) : Int) < ((dg b n : Nat) : Int) := by omega
        go_wp2_with fail
        go_region
        go_wp2_with fail
        go_ret
        exact ⟨by rw [hcm]; rfl, by repeat (first | with_reducible exact hbel | with_reducible apply Below.drew | with_reducible apply below_drewN), hsz⟩
      · have hlt' : decide (((dg a n : Nat) : Int) < ((dg b n : Nat) : Int)) = false := decide_eq_false (by omega)
        by_cases hgt : dg b n < dg a n
        · have hcm : cm a b = 1 := by
            unfold cm
            have key : b < a := Nat.lt_of_div_lt_div (c := Bs ^ n) (by omega)
            rw [if_neg (by omega), if_pos key]
          clear s1 s2 hq
          have hgt' : ((dg b n : Nat) : Int) < ((dg a n : Nat) : Int) := by omega
          go_wp2_with fail
          go_region
          go_wp2_with fail
          go_region
          go_wp2_with fail
          go_ret
          exact ⟨by rw [hcm]; rfl, by repeat (first | with_reducible exact hbel | with_reducible apply Below.drew | with_reducible apply below_drewN), hsz⟩
        · have hgt' : decide (((dg b n : Nat) : Int) < ((dg a n : Nat) : Int)) = false := decide_eq_false (by omega)
          have hqq : a / Bs ^ n = b / Bs ^ n := by omega
          clear s1 s2 hq
          go_wp2_with fail
          go_region
          go_wp2_with fail
          go_region
          go_wp2_with fail
          go_roundw
          case rel => exact ⟨⟨n, by omega, by go_num, hqq⟩, by repeat (first | with_reducible exact hbel | with_reducible apply Below.drew | with_reducible apply below_drewN), hsz⟩
          case measure => simp [intOf]
end Go.Proofs.YtbepibdjlajppaaDoor
