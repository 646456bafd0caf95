/-
  The statement TurnTo: for every input the law returns true.
-/
import Derived.Test.YtkjeebabcdnjkaaTurn3
import Derived.Test.YtkjeebabcdnjkaaPoint
set_option linter.unusedVariables false
namespace Go.Proofs.Ytkjeebabcdnjkaa.turnTo
open Go.ChangeShapes Go.WideShapes Go.ChangeAt Go.RowKit

theorem order_eq_symm {a b : Nat} (h : FloatKind.f64.format.order a b = some .eq) : FloatKind.f64.format.order b a = some .eq := by
  unfold Ieee.Format.order at *
  generalize FloatKind.f64.format.read a = x at *
  generalize FloatKind.f64.format.read b = y at *
  cases x <;> cases y <;> simp only [Ieee.Datum.order] at h ⊢
  all_goals try (cases h; done)
  · rename_i s m i t n j
    have h := Int.compare_eq_eq.1 (Option.some.inj h)
    rw [Int.min_comm j i, h]
    simp
  · rename_i s m i t; cases t <;> simp at h
  · rename_i s t n j; cases s <;> simp at h
  · rename_i s t; cases s <;> cases t <;> simp [compare, compareOfLessAndEq] at h ⊢
theorem eqB_symm (a b : Nat) : (FloatKind.f64.format.order a b == some .eq) = (FloatKind.f64.format.order b a == some .eq) := by
  rw [Bool.eq_iff_iff, beq_iff_eq, beq_iff_eq]
  exact ⟨order_eq_symm, order_eq_symm⟩

/-- What the law's first half meets: To of Of. -/
theorem to_of (x y : Int) : toB (ofR x y) (ofI x y) = true ∧ toX (ofR x y) (ofI x y) = cx x y ∧ toY (ofR x y) (ofI x y) = cy x y := by
  have bx := cx_b x y
  have bY := cy_b x y
  obtain ⟨h1, h2, h3⟩ := to_w (w_ofR x y) (w_ofI x y) (by omega) (by omega)
  have hs : stp (cx x y) (cy x y) = true := stp_t (by omega)
  refine ⟨by rw [h1, hs], ?_, ?_⟩
  · rw [h2]; show (if stp (cx x y) (cy x y) = true then cx x y else 0) = _; rw [if_pos hs]
  · rw [h3]; show (if stp (cx x y) (cy x y) = true then cy x y else 0) = _; rw [if_pos hs]

theorem first_half (x y : Int) : (stp x y = true ∧ cx x y = x ∧ cy x y = y) ∨ (stp x y = false ∧ cx x y = 0 ∧ cy x y = 0) := by
  unfold cx cy
  cases h : stp x y
  · right; simp
  · left; simp

set_option maxHeartbeats 1600000 in
theorem walk (x y : Int) (a b : Nat) (w : World) :
    Calls Try.prog 4 #[.agg #[.int .i64 x, .int .i64 y], .float .f64 a, .float .f64 b] w fun e w' => e = .returned (.bool true) ∧ Below w.heap.size w w' := by
  have hB : Below w.heap.size w w := Below.refl _ _
  obtain ⟨t1, t2, t3⟩ := to_of x y
  have HO : Hid (∀ w : World, Calls Try.prog 13 #[.complex .f64 (ofR x y) (ofI x y)] w fun e w' => e = .returned (.tuple #[.agg #[.int .i64 (cx x y), .int .i64 (cy x y)], .bool true]) ∧ Below w.heap.size w w') := by
    intro w
    have := to_any (ofR x y) (ofI x y) w
    rwa [t1, t2, t3] at this
  clear t1 t2 t3
  -- the second half's tests
  have q1 : (FloatKind.f64.format.order a 13929633647456944128 == some .gt || FloatKind.f64.format.order a 13929633647456944128 == some .eq) = geR a := rfl
  have q2 : (FloatKind.f64.format.order a 4706261610602168320 == some .lt || FloatKind.f64.format.order a 4706261610602168320 == some .eq) = leR a := rfl
  have q3 : (FloatKind.f64.format.order b 13929633647456944128 == some .gt || FloatKind.f64.format.order b 13929633647456944128 == some .eq) = geR b := rfl
  have q4 : (FloatKind.f64.format.order b 4706261610602168320 == some .lt || FloatKind.f64.format.order b 4706261610602168320 == some .eq) = leR b := rfl
  have hv1 : (geR a && leR a) = true → ∀ w : World, (convert 29 2 (.float .f64 a)).run Try.prog w = .ok (.int .i64 (cutN a)) w := fun h w =>
    run_convert_float_int (P := Try.prog) w _ _ _ _ _ _ (by rw [Try.underlying29]; rfl) Try.underlying2 (cut_ok a (by simp at h; exact h.1) (by simp at h; exact h.2)).1
  have hv2 : (geR b && leR b) = true → ∀ w : World, (convert 29 2 (.float .f64 b)).run Try.prog w = .ok (.int .i64 (cutN b)) w := fun h w =>
    run_convert_float_int (P := Try.prog) w _ _ _ _ _ _ (by rw [Try.underlying29]; rfl) Try.underlying2 (cut_ok b (by simp at h; exact h.1) (by simp at h; exact h.2)).1
  have HB : Hid (toB a b = (geR a && leR a && (FloatKind.f64.format.order (floatOfInt .f64 (cutN a)) a == some .eq) && (geR b && leR b && (FloatKind.f64.format.order (floatOfInt .f64 (cutN b)) b == some .eq)))) := rfl
  have HX : Hid (toB a b = true → toX a b = cutN a) := by
    intro h
    unfold toX
    rw [if_pos h]
    unfold wholeN
    rw [if_pos]
    have := HB.out ▸ h
    simp at this
    simp [this]
  have HY : Hid (toB a b = true → toY a b = cutN b) := by
    intro h
    unfold toY
    rw [if_pos h]
    unfold wholeN
    rw [if_pos]
    have := HB.out ▸ h
    simp at this
    simp [this]
  have HX0 : Hid (toB a b = false → toX a b = 0 ∧ toY a b = 0) := by
    intro h
    unfold toX toY
    rw [h]
    exact ⟨rfl, rfl⟩
  have e1 : (FloatKind.f64.format.order a (floatOfInt .f64 (cutN a)) == some .eq) = (FloatKind.f64.format.order (floatOfInt .f64 (cutN a)) a == some .eq) := eqB_symm _ _
  have e2 : (FloatKind.f64.format.order b (floatOfInt .f64 (cutN b)) == some .eq) = (FloatKind.f64.format.order (floatOfInt .f64 (cutN b)) b == some .eq) := eqB_symm _ _
  have HT := fun w : World => to_any a b w
  have HT := Lib.hid HT
  have HM := Lib.hid (first_half x y)
  generalize toB a b = B at *
  generalize toX a b = TX at *
  generalize toY a b = TY at *
  generalize cutN a = ca at *
  generalize cutN b = cb at *
  generalize geR a = p1 at *
  generalize leR a = p2 at *
  generalize geR b = p3 at *
  generalize leR b = p4 at *
  generalize hE1 : (FloatKind.f64.format.order (floatOfInt .f64 ca) a == some .eq) = E1 at *
  generalize hE2 : (FloatKind.f64.format.order (floatOfInt .f64 cb) b == some .eq) = E2 at *
  have HBN : Hid (B = false → (TX == 0) = true ∧ (TY == 0) = true) := fun h => by
    have := HX0.out h; simp [this]
  have finish : ∀ (w1 : World), Below w.heap.size w w1 → True := fun _ _ => trivial
  rcases HM.out with ⟨s1, s2, s3⟩ | ⟨s1, s2, s3⟩
  · rw [s2, s3] at HO
    have HS : Hid (∀ w : World, Calls Try.prog 11 #[.agg #[.int .i64 x, .int .i64 y]] w fun e w' => e = .returned (.bool (stp x y)) ∧ Below w.heap.size w w') := fun w => maystep_any x y w
    rw [s1] at HS
    clear HM s1 s2 s3 finish
    go_enter Try.func4, Try.ntmps4
    go_wp2_with fail
    refine (of_any _ _ _).mono ?_
    rintro e w1 ⟨rfl, hb⟩
    have hz := hb.size
    try simp at hz
    have hB' : Below w.heap.size w w1 := Below.trans (by repeat (first | exact Below.refl _ _ | exact hB | apply Below.drew | refine Below.alloc ?_ (by first | (simp; done) | (simp; omega) | omega) _ | refine Below.setCell ?_ (by first | (simp; done) | (simp; omega) | omega) _)) (hb.mono (by first | (simp; done) | (simp; omega) | omega))
    have hB := hB'
    clear hB'
    have l0 : w.heap.size < w1.heap.size := by omega
    have k0 : w1.cell? ⟨w.heap.size, 0, none⟩ = some (.int .i64 x) := (hb.cell (by first | (simp; done) | (simp; omega) | omega)).trans (by first | (go_keep; done) | (go_simp; done))
    have k1 : w1.cell? ⟨w.heap.size, 1, none⟩ = some (.int .i64 y) := (hb.cell (by first | (simp; done) | (simp; omega) | omega)).trans (by first | (go_keep; done) | (go_simp; done))
    clear hb
    go_wp2_with fail
    refine (HO.out _).mono ?_
    rintro e w2 ⟨rfl, hb⟩
    have hz := hb.size
    try simp at hz
    have hB' : Below w.heap.size w w2 := Below.trans (by repeat (first | exact Below.refl _ _ | exact hB | apply Below.drew | refine Below.alloc ?_ (by first | (simp; done) | (simp; omega) | omega) _ | refine Below.setCell ?_ (by first | (simp; done) | (simp; omega) | omega) _)) (hb.mono (by first | (simp; done) | (simp; omega) | omega))
    have hB := hB'
    clear hB'
    have l0 : w.heap.size < w2.heap.size := by omega
    have k0 : w2.cell? ⟨w.heap.size, 0, none⟩ = some (.int .i64 x) := (hb.cell (by first | (simp; done) | (simp; omega) | omega)).trans (by first | (go_keep; done) | (go_simp; done))
    have k1 : w2.cell? ⟨w.heap.size, 1, none⟩ = some (.int .i64 y) := (hb.cell (by first | (simp; done) | (simp; omega) | omega)).trans (by first | (go_keep; done) | (go_simp; done))
    clear hb
    clear HO
    go_wp2_with fail
    refine (HS.out _).mono ?_
    rintro e w3 ⟨rfl, hb⟩
    have hz := hb.size
    try simp at hz
    have hB' : Below w.heap.size w w3 := Below.trans (by repeat (first | exact Below.refl _ _ | exact hB | apply Below.drew | refine Below.alloc ?_ (by first | (simp; done) | (simp; omega) | omega) _ | refine Below.setCell ?_ (by first | (simp; done) | (simp; omega) | omega) _)) (hb.mono (by first | (simp; done) | (simp; omega) | omega))
    have hB := hB'
    clear hB'
    have l0 : w.heap.size < w3.heap.size := by omega
    have l1 : w2.heap.size < w3.heap.size := by omega
    have k0 : w3.cell? ⟨w.heap.size, 0, none⟩ = some (.int .i64 x) := (hb.cell (by first | (simp; done) | (simp; omega) | omega)).trans (by first | (go_keep; done) | (go_simp; done))
    have k1 : w3.cell? ⟨w.heap.size, 1, none⟩ = some (.int .i64 y) := (hb.cell (by first | (simp; done) | (simp; omega) | omega)).trans (by first | (go_keep; done) | (go_simp; done))
    have k2 : w3.cell? ⟨w2.heap.size, 0, none⟩ = some (.int .i64 x) := (hb.cell (by first | (simp; done) | (simp; omega) | omega)).trans (by first | (go_keep; done) | (go_simp; done))
    have k3 : w3.cell? ⟨w2.heap.size, 1, none⟩ = some (.int .i64 y) := (hb.cell (by first | (simp; done) | (simp; omega) | omega)).trans (by first | (go_keep; done) | (go_simp; done))
    clear hb
    clear HS
    go_wp2_with fail
    refine (HT.out _).mono ?_
    rintro e w4 ⟨rfl, hb⟩
    have hz := hb.size
    try simp at hz
    have hB' : Below w.heap.size w w4 := Below.trans (by repeat (first | exact Below.refl _ _ | exact hB | apply Below.drew | refine Below.alloc ?_ (by first | (simp; done) | (simp; omega) | omega) _ | refine Below.setCell ?_ (by first | (simp; done) | (simp; omega) | omega) _)) (hb.mono (by first | (simp; done) | (simp; omega) | omega))
    have hB := hB'
    clear hB'
    clear hb
    clear HT k0 k1 k2 k3 l0 l1
    cases p1
    · clear hv1 hv2 e1 e2 q2 q3 q4 hE1 hE2
      have hBv : B = false := by rw [HB.out]; rfl
      subst hBv
      obtain ⟨z1, z2⟩ := HX0.out rfl
      subst z1 z2
      clear HB HX HY HX0 HBN
      go_wp2_with fail
      refine (awake_any _).mono ?_
      rintro e w5 ⟨rfl, hb⟩
      have hz := hb.size
      try simp at hz
      have hB' : Below w.heap.size w w5 := Below.trans (by repeat (first | exact Below.refl _ _ | exact hB | apply Below.drew | refine Below.alloc ?_ (by first | (simp; done) | (simp; omega) | omega) _ | refine Below.setCell ?_ (by first | (simp; done) | (simp; omega) | omega) _)) (hb.mono (by first | (simp; done) | (simp; omega) | omega))
      have hB := hB'
      clear hB'
      clear hb
      go_wp2_with fail
      go_ret
      exact ⟨rfl, (by repeat (first | exact Below.refl _ _ | exact hB | apply Below.drew | refine Below.alloc ?_ (by first | (simp; done) | (simp; omega) | omega) _ | refine Below.setCell ?_ (by first | (simp; done) | (simp; omega) | omega) _))⟩
    cases p2
    · clear hv1 hv2 e1 e2 q3 q4 hE1 hE2
      have hBv : B = false := by rw [HB.out]; rfl
      subst hBv
      obtain ⟨z1, z2⟩ := HX0.out rfl
      subst z1 z2
      clear HB HX HY HX0 HBN
      go_wp2_with fail
      refine (awake_any _).mono ?_
      rintro e w5 ⟨rfl, hb⟩
      have hz := hb.size
      try simp at hz
      have hB' : Below w.heap.size w w5 := Below.trans (by repeat (first | exact Below.refl _ _ | exact hB | apply Below.drew | refine Below.alloc ?_ (by first | (simp; done) | (simp; omega) | omega) _ | refine Below.setCell ?_ (by first | (simp; done) | (simp; omega) | omega) _)) (hb.mono (by first | (simp; done) | (simp; omega) | omega))
      have hB := hB'
      clear hB'
      clear hb
      go_wp2_with fail
      go_ret
      exact ⟨rfl, (by repeat (first | exact Below.refl _ _ | exact hB | apply Below.drew | refine Below.alloc ?_ (by first | (simp; done) | (simp; omega) | omega) _ | refine Below.setCell ?_ (by first | (simp; done) | (simp; omega) | omega) _))⟩
    cases p3
    · clear hv1 hv2 e1 e2 q4 hE1 hE2
      have hBv : B = false := by rw [HB.out]; simp
      subst hBv
      obtain ⟨z1, z2⟩ := HX0.out rfl
      subst z1 z2
      clear HB HX HY HX0 HBN
      go_wp2_with fail
      refine (awake_any _).mono ?_
      rintro e w5 ⟨rfl, hb⟩
      have hz := hb.size
      try simp at hz
      have hB' : Below w.heap.size w w5 := Below.trans (by repeat (first | exact Below.refl _ _ | exact hB | apply Below.drew | refine Below.alloc ?_ (by first | (simp; done) | (simp; omega) | omega) _ | refine Below.setCell ?_ (by first | (simp; done) | (simp; omega) | omega) _)) (hb.mono (by first | (simp; done) | (simp; omega) | omega))
      have hB := hB'
      clear hB'
      clear hb
      go_wp2_with fail
      go_ret
      exact ⟨rfl, (by repeat (first | exact Below.refl _ _ | exact hB | apply Below.drew | refine Below.alloc ?_ (by first | (simp; done) | (simp; omega) | omega) _ | refine Below.setCell ?_ (by first | (simp; done) | (simp; omega) | omega) _))⟩
    cases p4
    · clear hv1 hv2 e1 e2 hE1 hE2
      have hBv : B = false := by rw [HB.out]; simp
      subst hBv
      obtain ⟨z1, z2⟩ := HX0.out rfl
      subst z1 z2
      clear HB HX HY HX0 HBN
      go_wp2_with fail
      refine (awake_any _).mono ?_
      rintro e w5 ⟨rfl, hb⟩
      have hz := hb.size
      try simp at hz
      have hB' : Below w.heap.size w w5 := Below.trans (by repeat (first | exact Below.refl _ _ | exact hB | apply Below.drew | refine Below.alloc ?_ (by first | (simp; done) | (simp; omega) | omega) _ | refine Below.setCell ?_ (by first | (simp; done) | (simp; omega) | omega) _)) (hb.mono (by first | (simp; done) | (simp; omega) | omega))
      have hB := hB'
      clear hB'
      clear hb
      go_wp2_with fail
      go_ret
      exact ⟨rfl, (by repeat (first | exact Below.refl _ _ | exact hB | apply Below.drew | refine Below.alloc ?_ (by first | (simp; done) | (simp; omega) | omega) _ | refine Below.setCell ?_ (by first | (simp; done) | (simp; omega) | omega) _))⟩
    have hv1 := hv1 rfl
    have hv2 := hv2 rfl
    cases E1
    · clear e2 hE2
      have hBv : B = false := by rw [HB.out]; rfl
      subst hBv
      obtain ⟨z1, z2⟩ := HX0.out rfl
      subst z1 z2
      clear HB HX HY HX0 HBN
      go_wp2_with fail
      refine (awake_any _).mono ?_
      rintro e w5 ⟨rfl, hb⟩
      have hz := hb.size
      try simp at hz
      have hB' : Below w.heap.size w w5 := Below.trans (by repeat (first | exact Below.refl _ _ | exact hB | apply Below.drew | refine Below.alloc ?_ (by first | (simp; done) | (simp; omega) | omega) _ | refine Below.setCell ?_ (by first | (simp; done) | (simp; omega) | omega) _)) (hb.mono (by first | (simp; done) | (simp; omega) | omega))
      have hB := hB'
      clear hB'
      clear hb
      go_wp2_with fail
      go_ret
      exact ⟨rfl, (by repeat (first | exact Below.refl _ _ | exact hB | apply Below.drew | refine Below.alloc ?_ (by first | (simp; done) | (simp; omega) | omega) _ | refine Below.setCell ?_ (by first | (simp; done) | (simp; omega) | omega) _))⟩
    cases E2
    · have hBv : B = false := by rw [HB.out]; rfl
      subst hBv
      obtain ⟨z1, z2⟩ := HX0.out rfl
      subst z1 z2
      clear HB HX HY HX0 HBN
      go_wp2_with fail
      refine (awake_any _).mono ?_
      rintro e w5 ⟨rfl, hb⟩
      have hz := hb.size
      try simp at hz
      have hB' : Below w.heap.size w w5 := Below.trans (by repeat (first | exact Below.refl _ _ | exact hB | apply Below.drew | refine Below.alloc ?_ (by first | (simp; done) | (simp; omega) | omega) _ | refine Below.setCell ?_ (by first | (simp; done) | (simp; omega) | omega) _)) (hb.mono (by first | (simp; done) | (simp; omega) | omega))
      have hB := hB'
      clear hB'
      clear hb
      go_wp2_with fail
      go_ret
      exact ⟨rfl, (by repeat (first | exact Below.refl _ _ | exact hB | apply Below.drew | refine Below.alloc ?_ (by first | (simp; done) | (simp; omega) | omega) _ | refine Below.setCell ?_ (by first | (simp; done) | (simp; omega) | omega) _))⟩
    · have hBv : B = true := by rw [HB.out]; rfl
      subst hBv
      obtain rfl := HX.out rfl
      obtain rfl := HY.out rfl
      clear HB HX HY HX0 HBN
      go_wp2_with fail
      refine (awake_any _).mono ?_
      rintro e w5 ⟨rfl, hb⟩
      have hz := hb.size
      try simp at hz
      have hB' : Below w.heap.size w w5 := Below.trans (by repeat (first | exact Below.refl _ _ | exact hB | apply Below.drew | refine Below.alloc ?_ (by first | (simp; done) | (simp; omega) | omega) _ | refine Below.setCell ?_ (by first | (simp; done) | (simp; omega) | omega) _)) (hb.mono (by first | (simp; done) | (simp; omega) | omega))
      have hB := hB'
      clear hB'
      clear hb
      go_wp2_with fail
      go_ret
      exact ⟨rfl, (by repeat (first | exact Below.refl _ _ | exact hB | apply Below.drew | refine Below.alloc ?_ (by first | (simp; done) | (simp; omega) | omega) _ | refine Below.setCell ?_ (by first | (simp; done) | (simp; omega) | omega) _))⟩
  · rw [s2, s3] at HO
    have HS : Hid (∀ w : World, Calls Try.prog 11 #[.agg #[.int .i64 x, .int .i64 y]] w fun e w' => e = .returned (.bool (stp x y)) ∧ Below w.heap.size w w') := fun w => maystep_any x y w
    rw [s1] at HS
    clear HM s1 s2 s3 finish
    go_enter Try.func4, Try.ntmps4
    go_wp2_with fail
    refine (of_any _ _ _).mono ?_
    rintro e w1 ⟨rfl, hb⟩
    have hz := hb.size
    try simp at hz
    have hB' : Below w.heap.size w w1 := Below.trans (by repeat (first | exact Below.refl _ _ | exact hB | apply Below.drew | refine Below.alloc ?_ (by first | (simp; done) | (simp; omega) | omega) _ | refine Below.setCell ?_ (by first | (simp; done) | (simp; omega) | omega) _)) (hb.mono (by first | (simp; done) | (simp; omega) | omega))
    have hB := hB'
    clear hB'
    have l0 : w.heap.size < w1.heap.size := by omega
    have k0 : w1.cell? ⟨w.heap.size, 0, none⟩ = some (.int .i64 x) := (hb.cell (by first | (simp; done) | (simp; omega) | omega)).trans (by first | (go_keep; done) | (go_simp; done))
    have k1 : w1.cell? ⟨w.heap.size, 1, none⟩ = some (.int .i64 y) := (hb.cell (by first | (simp; done) | (simp; omega) | omega)).trans (by first | (go_keep; done) | (go_simp; done))
    clear hb
    go_wp2_with fail
    refine (HO.out _).mono ?_
    rintro e w2 ⟨rfl, hb⟩
    have hz := hb.size
    try simp at hz
    have hB' : Below w.heap.size w w2 := Below.trans (by repeat (first | exact Below.refl _ _ | exact hB | apply Below.drew | refine Below.alloc ?_ (by first | (simp; done) | (simp; omega) | omega) _ | refine Below.setCell ?_ (by first | (simp; done) | (simp; omega) | omega) _)) (hb.mono (by first | (simp; done) | (simp; omega) | omega))
    have hB := hB'
    clear hB'
    have l0 : w.heap.size < w2.heap.size := by omega
    have k0 : w2.cell? ⟨w.heap.size, 0, none⟩ = some (.int .i64 x) := (hb.cell (by first | (simp; done) | (simp; omega) | omega)).trans (by first | (go_keep; done) | (go_simp; done))
    have k1 : w2.cell? ⟨w.heap.size, 1, none⟩ = some (.int .i64 y) := (hb.cell (by first | (simp; done) | (simp; omega) | omega)).trans (by first | (go_keep; done) | (go_simp; done))
    clear hb
    clear HO
    go_wp2_with fail
    refine (HS.out _).mono ?_
    rintro e w3 ⟨rfl, hb⟩
    have hz := hb.size
    try simp at hz
    have hB' : Below w.heap.size w w3 := Below.trans (by repeat (first | exact Below.refl _ _ | exact hB | apply Below.drew | refine Below.alloc ?_ (by first | (simp; done) | (simp; omega) | omega) _ | refine Below.setCell ?_ (by first | (simp; done) | (simp; omega) | omega) _)) (hb.mono (by first | (simp; done) | (simp; omega) | omega))
    have hB := hB'
    clear hB'
    have l0 : w.heap.size < w3.heap.size := by omega
    have l1 : w2.heap.size < w3.heap.size := by omega
    have k0 : w3.cell? ⟨w.heap.size, 0, none⟩ = some (.int .i64 x) := (hb.cell (by first | (simp; done) | (simp; omega) | omega)).trans (by first | (go_keep; done) | (go_simp; done))
    have k1 : w3.cell? ⟨w.heap.size, 1, none⟩ = some (.int .i64 y) := (hb.cell (by first | (simp; done) | (simp; omega) | omega)).trans (by first | (go_keep; done) | (go_simp; done))
    have k2 : w3.cell? ⟨w2.heap.size, 0, none⟩ = some (.int .i64 0) := (hb.cell (by first | (simp; done) | (simp; omega) | omega)).trans (by first | (go_keep; done) | (go_simp; done))
    have k3 : w3.cell? ⟨w2.heap.size, 1, none⟩ = some (.int .i64 0) := (hb.cell (by first | (simp; done) | (simp; omega) | omega)).trans (by first | (go_keep; done) | (go_simp; done))
    clear hb
    clear HS
    go_wp2_with fail
    refine (HT.out _).mono ?_
    rintro e w4 ⟨rfl, hb⟩
    have hz := hb.size
    try simp at hz
    have hB' : Below w.heap.size w w4 := Below.trans (by repeat (first | exact Below.refl _ _ | exact hB | apply Below.drew | refine Below.alloc ?_ (by first | (simp; done) | (simp; omega) | omega) _ | refine Below.setCell ?_ (by first | (simp; done) | (simp; omega) | omega) _)) (hb.mono (by first | (simp; done) | (simp; omega) | omega))
    have hB := hB'
    clear hB'
    clear hb
    clear HT k0 k1 k2 k3 l0 l1
    cases p1
    · clear hv1 hv2 e1 e2 q2 q3 q4 hE1 hE2
      have hBv : B = false := by rw [HB.out]; rfl
      subst hBv
      obtain ⟨z1, z2⟩ := HX0.out rfl
      subst z1 z2
      clear HB HX HY HX0 HBN
      go_wp2_with fail
      refine (awake_any _).mono ?_
      rintro e w5 ⟨rfl, hb⟩
      have hz := hb.size
      try simp at hz
      have hB' : Below w.heap.size w w5 := Below.trans (by repeat (first | exact Below.refl _ _ | exact hB | apply Below.drew | refine Below.alloc ?_ (by first | (simp; done) | (simp; omega) | omega) _ | refine Below.setCell ?_ (by first | (simp; done) | (simp; omega) | omega) _)) (hb.mono (by first | (simp; done) | (simp; omega) | omega))
      have hB := hB'
      clear hB'
      clear hb
      go_wp2_with fail
      go_ret
      exact ⟨rfl, (by repeat (first | exact Below.refl _ _ | exact hB | apply Below.drew | refine Below.alloc ?_ (by first | (simp; done) | (simp; omega) | omega) _ | refine Below.setCell ?_ (by first | (simp; done) | (simp; omega) | omega) _))⟩
    cases p2
    · clear hv1 hv2 e1 e2 q3 q4 hE1 hE2
      have hBv : B = false := by rw [HB.out]; rfl
      subst hBv
      obtain ⟨z1, z2⟩ := HX0.out rfl
      subst z1 z2
      clear HB HX HY HX0 HBN
      go_wp2_with fail
      refine (awake_any _).mono ?_
      rintro e w5 ⟨rfl, hb⟩
      have hz := hb.size
      try simp at hz
      have hB' : Below w.heap.size w w5 := Below.trans (by repeat (first | exact Below.refl _ _ | exact hB | apply Below.drew | refine Below.alloc ?_ (by first | (simp; done) | (simp; omega) | omega) _ | refine Below.setCell ?_ (by first | (simp; done) | (simp; omega) | omega) _)) (hb.mono (by first | (simp; done) | (simp; omega) | omega))
      have hB := hB'
      clear hB'
      clear hb
      go_wp2_with fail
      go_ret
      exact ⟨rfl, (by repeat (first | exact Below.refl _ _ | exact hB | apply Below.drew | refine Below.alloc ?_ (by first | (simp; done) | (simp; omega) | omega) _ | refine Below.setCell ?_ (by first | (simp; done) | (simp; omega) | omega) _))⟩
    cases p3
    · clear hv1 hv2 e1 e2 q4 hE1 hE2
      have hBv : B = false := by rw [HB.out]; simp
      subst hBv
      obtain ⟨z1, z2⟩ := HX0.out rfl
      subst z1 z2
      clear HB HX HY HX0 HBN
      go_wp2_with fail
      refine (awake_any _).mono ?_
      rintro e w5 ⟨rfl, hb⟩
      have hz := hb.size
      try simp at hz
      have hB' : Below w.heap.size w w5 := Below.trans (by repeat (first | exact Below.refl _ _ | exact hB | apply Below.drew | refine Below.alloc ?_ (by first | (simp; done) | (simp; omega) | omega) _ | refine Below.setCell ?_ (by first | (simp; done) | (simp; omega) | omega) _)) (hb.mono (by first | (simp; done) | (simp; omega) | omega))
      have hB := hB'
      clear hB'
      clear hb
      go_wp2_with fail
      go_ret
      exact ⟨rfl, (by repeat (first | exact Below.refl _ _ | exact hB | apply Below.drew | refine Below.alloc ?_ (by first | (simp; done) | (simp; omega) | omega) _ | refine Below.setCell ?_ (by first | (simp; done) | (simp; omega) | omega) _))⟩
    cases p4
    · clear hv1 hv2 e1 e2 hE1 hE2
      have hBv : B = false := by rw [HB.out]; simp
      subst hBv
      obtain ⟨z1, z2⟩ := HX0.out rfl
      subst z1 z2
      clear HB HX HY HX0 HBN
      go_wp2_with fail
      refine (awake_any _).mono ?_
      rintro e w5 ⟨rfl, hb⟩
      have hz := hb.size
      try simp at hz
      have hB' : Below w.heap.size w w5 := Below.trans (by repeat (first | exact Below.refl _ _ | exact hB | apply Below.drew | refine Below.alloc ?_ (by first | (simp; done) | (simp; omega) | omega) _ | refine Below.setCell ?_ (by first | (simp; done) | (simp; omega) | omega) _)) (hb.mono (by first | (simp; done) | (simp; omega) | omega))
      have hB := hB'
      clear hB'
      clear hb
      go_wp2_with fail
      go_ret
      exact ⟨rfl, (by repeat (first | exact Below.refl _ _ | exact hB | apply Below.drew | refine Below.alloc ?_ (by first | (simp; done) | (simp; omega) | omega) _ | refine Below.setCell ?_ (by first | (simp; done) | (simp; omega) | omega) _))⟩
    have hv1 := hv1 rfl
    have hv2 := hv2 rfl
    cases E1
    · clear e2 hE2
      have hBv : B = false := by rw [HB.out]; rfl
      subst hBv
      obtain ⟨z1, z2⟩ := HX0.out rfl
      subst z1 z2
      clear HB HX HY HX0 HBN
      go_wp2_with fail
      refine (awake_any _).mono ?_
      rintro e w5 ⟨rfl, hb⟩
      have hz := hb.size
      try simp at hz
      have hB' : Below w.heap.size w w5 := Below.trans (by repeat (first | exact Below.refl _ _ | exact hB | apply Below.drew | refine Below.alloc ?_ (by first | (simp; done) | (simp; omega) | omega) _ | refine Below.setCell ?_ (by first | (simp; done) | (simp; omega) | omega) _)) (hb.mono (by first | (simp; done) | (simp; omega) | omega))
      have hB := hB'
      clear hB'
      clear hb
      go_wp2_with fail
      go_ret
      exact ⟨rfl, (by repeat (first | exact Below.refl _ _ | exact hB | apply Below.drew | refine Below.alloc ?_ (by first | (simp; done) | (simp; omega) | omega) _ | refine Below.setCell ?_ (by first | (simp; done) | (simp; omega) | omega) _))⟩
    cases E2
    · have hBv : B = false := by rw [HB.out]; rfl
      subst hBv
      obtain ⟨z1, z2⟩ := HX0.out rfl
      subst z1 z2
      clear HB HX HY HX0 HBN
      go_wp2_with fail
      refine (awake_any _).mono ?_
      rintro e w5 ⟨rfl, hb⟩
      have hz := hb.size
      try simp at hz
      have hB' : Below w.heap.size w w5 := Below.trans (by repeat (first | exact Below.refl _ _ | exact hB | apply Below.drew | refine Below.alloc ?_ (by first | (simp; done) | (simp; omega) | omega) _ | refine Below.setCell ?_ (by first | (simp; done) | (simp; omega) | omega) _)) (hb.mono (by first | (simp; done) | (simp; omega) | omega))
      have hB := hB'
      clear hB'
      clear hb
      go_wp2_with fail
      go_ret
      exact ⟨rfl, (by repeat (first | exact Below.refl _ _ | exact hB | apply Below.drew | refine Below.alloc ?_ (by first | (simp; done) | (simp; omega) | omega) _ | refine Below.setCell ?_ (by first | (simp; done) | (simp; omega) | omega) _))⟩
    · have hBv : B = true := by rw [HB.out]; rfl
      subst hBv
      obtain rfl := HX.out rfl
      obtain rfl := HY.out rfl
      clear HB HX HY HX0 HBN
      go_wp2_with fail
      refine (awake_any _).mono ?_
      rintro e w5 ⟨rfl, hb⟩
      have hz := hb.size
      try simp at hz
      have hB' : Below w.heap.size w w5 := Below.trans (by repeat (first | exact Below.refl _ _ | exact hB | apply Below.drew | refine Below.alloc ?_ (by first | (simp; done) | (simp; omega) | omega) _ | refine Below.setCell ?_ (by first | (simp; done) | (simp; omega) | omega) _)) (hb.mono (by first | (simp; done) | (simp; omega) | omega))
      have hB := hB'
      clear hB'
      clear hb
      go_wp2_with fail
      go_ret
      exact ⟨rfl, (by repeat (first | exact Below.refl _ _ | exact hB | apply Below.drew | refine Below.alloc ?_ (by first | (simp; done) | (simp; omega) | omega) _ | refine Below.setCell ?_ (by first | (simp; done) | (simp; omega) | omega) _))⟩

set_option maxRecDepth 100000 in
theorem lifted (os : Os) (started : os.Started) (H : Type) (enc : TypeId × Value → H) :
    ReturnsInHanded {} Try.checked os 4 .any (Rows.turnToSpec.pre6 enc Try.prog Try.f4 Rows.turnToRow.domain false) (Rows.turnToSpec.post enc Try.prog Try.f4 false true false false) := by
  refine law_lifted (C := Try.checked) (tb := 4) Try.own started (by kernel_rfl) Try.func4 Try.laidOut (by kernel_rfl) rfl Try.underlying4 rfl
    (fun ds hds => by match ds, hds with | [_, _, _], _ => rfl)
    (ChangeSpec.witness6 (enc := enc) (C := Try.checked) false ⟨#[], #[.agg #[.int .i64 0, .int .i64 0], .float .f64 0, .float .f64 0], []⟩ 8 (by kernel_rfl) (by kernel_rfl) (by kernel_rfl) (by kernel_rfl)) ?_
  intro W base args ds p hval0 hA0 hsz0
  have hval : ∀ (j : Nat) t v, Try.f4.params[j]? = some t → args[j]? = some v → Value.okWide Try.prog W .any base t v := hval0
  have hA : DataW.TrodAll enc Try.prog W 0 (fun _ => true) true Try.f4.params.toList args.toList ds p := hA0
  have hsz : (DataW.weightsEach Try.prog Try.f4.params.toList ds).all (· ≤ reachBytes) = true := hsz0
  rw [Try.params4] at hA hval hsz
  obtain ⟨v0, vs0, d0, ds0, p0, q0, hargs, rfl, rfl, h0, r0⟩ := trodAll_cons hA
  obtain ⟨v1, vs1, d1, ds1, p1, q1, rfl, rfl, rfl, h1, r1⟩ := trodAll_cons r0
  obtain ⟨v2, vs2, d2, ds2, p2, q2, rfl, rfl, rfl, h2, r2⟩ := trodAll_cons r1
  obtain ⟨rfl, rfl, rfl⟩ := trodAll_nil r2
  obtain rfl : args = #[v0, v1, v2] := by cases args; simp_all
  obtain ⟨x0, y0, rfl, wx0, wy0⟩ := open_point (hval 0 _ v0 rfl rfl) h0
  obtain ⟨a1, rfl, rfl, rfl, w1⟩ := open_float Try.underlying29 (hval 1 _ v1 rfl rfl) h1
  obtain ⟨a2, rfl, rfl, rfl, w2⟩ := open_float Try.underlying29 (hval 2 _ v2 rfl rfl) h2
  exact walk x0 y0 a1 a2 W

theorem proved : Rows.TurnToSaid :=
  OpenClaim.holds_of_wide 4 Try.f4 rfl rfl rfl rfl rfl rfl rfl ⟨rfl, rfl, rfl, rfl, rfl⟩ rfl rfl rfl rfl rfl (by kernel_rfl) Try.func4 (by kernel_rfl)
    (of_decide_eq_true (by kernel_rfl)) (by unfold Func.isWrapper; rw [if_neg (by decide +kernel)]; exact ⟨rfl, rfl⟩)
    (fun os started H enc _ => lifted os started H enc)
#print axioms proved

end Go.Proofs.Ytkjeebabcdnjkaa.turnTo
