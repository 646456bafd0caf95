/-
  The walks of turn: whole, To (split from XTurn2, so that seats without MayStep have it).
-/
import Derived.Test.YtkjeebabcdnjkaaTurnS
set_option linter.unusedVariables false
namespace Go.Proofs.Ytkjeebabcdnjkaa
open Go.RowKit

/-! ### whole -/
def geR (b : Nat) : Bool := FloatKind.f64.format.order b 13929633647456944128 == some .gt || FloatKind.f64.format.order b 13929633647456944128 == some .eq
def leR (b : Nat) : Bool := FloatKind.f64.format.order b 4706261610602168320 == some .lt || FloatKind.f64.format.order b 4706261610602168320 == some .eq
def cutN (b : Nat) : Int := (floatToIntVal .f64 b .i64).getD 0
def wholeN (b : Nat) : Int := if (geR b && leR b) = true then cutN b else 0
def wholeB (b : Nat) : Bool := geR b && leR b && (FloatKind.f64.format.order (floatOfInt .f64 (cutN b)) b == some .eq)

theorem cut_ok (b : Nat) (h1 : geR b = true) (h2 : leR b = true) : floatToIntVal .f64 b .i64 = some (cutN b) ∧ -4194304 ≤ cutN b ∧ cutN b ≤ 4194304 := by
  obtain ⟨n, hn, h3, h4⟩ := FZ.order_whole (a := b) (B := 4194304) FZ.range_lo FZ.range_hi (by simpa [geR] using h1) (by simpa [leR] using h2) (by decide)
  have : cutN b = n := by unfold cutN; rw [hn]; rfl
  rw [this]
  exact ⟨hn, by omega, by omega⟩

theorem ret2 {n n' : Int} {b b' : Bool} (h : n = n') (k : b = b') : Ending.returned (.tuple #[.int .i64 n, .bool b]) = .returned (.tuple #[.int .i64 n', .bool b']) := by rw [h, k]

set_option maxHeartbeats 400000 in
theorem whole_any (b : Nat) (w : World) :
    Calls Try.prog 23 #[.float .f64 b] w fun e w' => e = .returned (.tuple #[.int .i64 (wholeN b), .bool (wholeB b)]) ∧ w = w' := by
  have q1 : (FloatKind.f64.format.order b 13929633647456944128 == some .gt || FloatKind.f64.format.order b 13929633647456944128 == some .eq) = geR b := rfl
  have q2 : (FloatKind.f64.format.order b 4706261610602168320 == some .lt || FloatKind.f64.format.order b 4706261610602168320 == some .eq) = leR b := rfl
  by_cases h1 : geR b = true
  · by_cases h2 : leR b = true
    · obtain ⟨hc, _, _⟩ := cut_ok b h1 h2
      have hcv := fun w : World => run_convert_float_int (P := Try.prog) w 29 2 _ _ _ _ (by rw [Try.underlying29]; rfl) Try.underlying2 hc
      have hn : cutN b = wholeN b := by unfold wholeN; rw [h1, h2]; rfl
      have hb : (FloatKind.f64.format.order (floatOfInt .f64 (cutN b)) b == some .eq) = wholeB b := by unfold wholeB; rw [h1, h2]; rfl
      have HN := Lib.hid hn
      have HB := Lib.hid hb
      clear hc hn hb
      rw [h1] at q1
      rw [h2] at q2
      generalize cutN b = c at *
      go_enter Try.func23, Try.ntmps23
      go_wp2
      go_ret2
      exact ⟨ret2 HN.out HB.out, rfl⟩
    · have h2' : leR b = false := by simpa using h2
      have hn : 0 = wholeN b := by unfold wholeN; rw [h1, h2']; rfl
      have hb : false = wholeB b := by unfold wholeB; rw [h1, h2']; rfl
      have HN := Lib.hid hn
      have HB := Lib.hid hb
      clear hn hb
      rw [h1] at q1
      rw [h2'] at q2
      go_enter Try.func23, Try.ntmps23
      go_wp2
      go_ret2
      exact ⟨ret2 HN.out HB.out, rfl⟩
  · have h1' : geR b = false := by simpa using h1
    have hn : 0 = wholeN b := by unfold wholeN; rw [h1']; rfl
    have hb : false = wholeB b := by unfold wholeB; rw [h1']; rfl
    have HN := Lib.hid hn
    have HB := Lib.hid hb
    clear hn hb
    rw [h1'] at q1
    go_enter Try.func23, Try.ntmps23
    go_wp2
    go_ret2
    exact ⟨ret2 HN.out HB.out, rfl⟩

/-! ### To -/
def toB (a b : Nat) : Bool := wholeB a && wholeB b
def toX (a b : Nat) : Int := if toB a b = true then wholeN a else 0
def toY (a b : Nat) : Int := if toB a b = true then wholeN b else 0

set_option maxHeartbeats 400000 in
theorem to_any (a b : Nat) (w : World) :
    Calls Try.prog 13 #[.complex .f64 a b] w fun e w' => e = .returned (.tuple #[.agg #[.int .i64 (toX a b), .int .i64 (toY a b)], .bool (toB a b)]) ∧ Below w.heap.size w w' := by
  have hB : Below w.heap.size w w := Below.refl _ _
  cases h1 : wholeB a
  · have e1 : toB a b = false := by unfold toB; rw [h1]; rfl
    have e2 : toX a b = 0 := by unfold toX; rw [e1]; rfl
    have e3 : toY a b = 0 := by unfold toY; rw [e1]; rfl
    rw [e1, e2, e3]
    clear e1 e2 e3
    go_enter Try.func13, Try.ntmps13
    go_wp2_with (go_at_call 23; refine (whole_any _ _).mono ?_; rintro e w' ⟨rfl, rfl⟩)
    exact bodyPost_ret (v := .tuple #[.agg #[.int .i64 0, .int .i64 0], .bool false]) (by simp [results, Try.results13, go_sem]) rfl ⟨rfl, (by repeat (first | exact Below.refl _ _ | exact hB | apply Below.drew | refine Below.alloc ?_ (by first | (simp; done) | (simp; omega) | omega) _ | refine Below.setCell ?_ (by first | (simp; done) | (simp; omega) | omega) _))⟩
  · cases h2 : wholeB b
    · have e1 : toB a b = false := by unfold toB; rw [h1, h2]; rfl
      have e2 : toX a b = 0 := by unfold toX; rw [e1]; rfl
      have e3 : toY a b = 0 := by unfold toY; rw [e1]; rfl
      rw [e1, e2, e3]
      clear e1 e2 e3
      go_enter Try.func13, Try.ntmps13
      go_wp2_with (go_at_call 23; refine (whole_any _ _).mono ?_; rintro e w' ⟨rfl, rfl⟩)
      exact bodyPost_ret (v := .tuple #[.agg #[.int .i64 0, .int .i64 0], .bool false]) (by simp [results, Try.results13, go_sem]) rfl ⟨rfl, (by repeat (first | exact Below.refl _ _ | exact hB | apply Below.drew | refine Below.alloc ?_ (by first | (simp; done) | (simp; omega) | omega) _ | refine Below.setCell ?_ (by first | (simp; done) | (simp; omega) | omega) _))⟩
    · have e1 : toB a b = true := by unfold toB; rw [h1, h2]; rfl
      have e2 : toX a b = wholeN a := by unfold toX; rw [e1]; rfl
      have e3 : toY a b = wholeN b := by unfold toY; rw [e1]; rfl
      rw [e1, e2, e3]
      clear e1 e2 e3
      go_enter Try.func13, Try.ntmps13
      go_wp2_with (go_at_call 23; refine (whole_any _ _).mono ?_; rintro e w' ⟨rfl, rfl⟩)
      exact bodyPost_ret (v := .tuple #[.agg #[.int .i64 (wholeN a), .int .i64 (wholeN b)], .bool true]) (by simp [results, Try.results13, go_sem]) rfl ⟨rfl, (by repeat (first | exact Below.refl _ _ | exact hB | apply Below.drew | refine Below.alloc ?_ (by first | (simp; done) | (simp; omega) | omega) _ | refine Below.setCell ?_ (by first | (simp; done) | (simp; omega) | omega) _))⟩

/-- What To says of a word that stands for a whole number. -/
theorem geR_w {b : Nat} {z : Int} (h : FZ.W b z) : geR b = decide (-4194304 ≤ z) := by
  unfold geR
  rw [h.order FZ.range_lo]
  rcases Int.lt_trichotomy z (-4194304) with g | g | g
  · rw [Int.compare_eq_lt.2 g]; simp; omega
  · subst g; rfl
  · rw [Int.compare_eq_gt.2 g]; simp; omega
theorem leR_w {b : Nat} {z : Int} (h : FZ.W b z) : leR b = decide (z ≤ 4194304) := by
  unfold leR
  rw [h.order FZ.range_hi]
  rcases Int.lt_trichotomy z 4194304 with g | g | g
  · rw [Int.compare_eq_lt.2 g]; simp; omega
  · subst g; rfl
  · rw [Int.compare_eq_gt.2 g]; simp; omega
theorem cutN_w {b : Nat} {z : Int} (h : FZ.W b z) (hz : -9223372036854775808 ≤ z ∧ z ≤ 9223372036854775807) : cutN b = z := by unfold cutN; rw [h.toInt hz]; rfl
theorem wholeB_w {b : Nat} {z : Int} (h : FZ.W b z) (hz : -9007199254740992 < z ∧ z < 9007199254740992) : wholeB b = decide (-4194304 ≤ z ∧ z ≤ 4194304) := by
  unfold wholeB
  rw [geR_w h, leR_w h, cutN_w h (by omega), (FZ.W.of_int hz).order h]
  simp
theorem wholeN_w {b : Nat} {z : Int} (h : FZ.W b z) (hz : -4194304 ≤ z ∧ z ≤ 4194304) : wholeN b = z := by
  unfold wholeN
  rw [geR_w h, leR_w h, cutN_w h (by omega), if_pos (by simp; omega)]
theorem to_w {a b : Nat} {x y : Int} (ha : FZ.W a x) (hb : FZ.W b y) (hx : -9007199254740992 < x ∧ x < 9007199254740992) (hy : -9007199254740992 < y ∧ y < 9007199254740992) :
    toB a b = stp x y ∧ toX a b = cx x y ∧ toY a b = cy x y := by
  have h1 : toB a b = stp x y := by
    unfold toB
    rw [wholeB_w ha hx, wholeB_w hb hy]
    unfold stp
    rw [← Bool.decide_and]
    congr 1
    simp only [eq_iff_iff]; omega
  refine ⟨h1, ?_, ?_⟩
  · unfold toX cx
    rw [h1]
    split
    · rename_i h; have := stp_iff.1 h; exact wholeN_w ha (by omega)
    · rfl
  · unfold toY cy
    rw [h1]
    split
    · rename_i h; have := stp_iff.1 h; exact wholeN_w hb (by omega)
    · rfl

end Go.Proofs.Ytkjeebabcdnjkaa
