/-
  The statement TurnTriangle: for every input the law returns true.
-/
import Derived.Test.YtkjeebabcdnjkaaDist
import Derived.Test.YtkjeebabcdnjkaaTurn3
import Derived.Test.YtkjeebabcdnjkaaPoint
import Derived.Deep.DeepCutAuto
set_option linter.unusedVariables false
namespace Go.Proofs.Ytkjeebabcdnjkaa.turnTriangle
open Go.ChangeShapes Go.WideShapes Go.ChangeAt Go.RowKit

theorem tmod_b (x : Int) : -4194303 ≤ x.tmod 4194304 ∧ x.tmod 4194304 ≤ 4194303 := by
  rcases Int.le_total 0 x with h | h
  · rw [Int.tmod_eq_emod_of_nonneg h]; omega
  · have : x.tmod 4194304 = -((-x).tmod 4194304) := by rw [Int.neg_tmod]; omega
    rw [this, Int.tmod_eq_emod_of_nonneg (by omega)]; omega

theorem okPos_t {n : Int} (h : -4194303 ≤ n ∧ n ≤ 4194303) : okPos n = true := inB_t (by omega)

/-- The square of a distance. -/
def sqd (x y : Int) : Nat := x.natAbs * x.natAbs + y.natAbs * y.natAbs
theorem sqd_of (x y : Int) : (x * x + y * y).toNat = sqd x y := by
  have e1 := (Int.natAbs_mul_self' x).symm.trans (Int.natCast_mul _ _).symm
  have e2 := (Int.natAbs_mul_self' y).symm.trans (Int.natCast_mul _ _).symm
  unfold sqd
  omega
/-- Cauchy's inequality. -/
theorem cauchy (x y u v : Nat) : (x * u + y * v) * (x * u + y * v) ≤ (x * x + y * y) * (u * u + v * v) := by
  have h : 2 * ((x * v) * (y * u)) ≤ (x * v) * (x * v) + (y * u) * (y * u) := by
    generalize x * v = p
    generalize y * u = q
    rcases Nat.le_total p q with hpq | hpq
    · obtain ⟨d, rfl⟩ : ∃ d, q = p + d := ⟨q - p, by omega⟩
      simp only [Nat.add_mul, Nat.mul_add]
      have := Nat.mul_comm p d
      omega
    · obtain ⟨d, rfl⟩ : ∃ d, p = q + d := ⟨p - q, by omega⟩
      simp only [Nat.add_mul, Nat.mul_add]
      have := Nat.mul_comm q d
      omega
  have e1 : (x * u) * (y * v) = (x * v) * (y * u) := by
    rw [Nat.mul_mul_mul_comm, Nat.mul_comm u v, Nat.mul_mul_mul_comm]
  have e2 : (x * u) * (x * u) = (x * x) * (u * u) := Nat.mul_mul_mul_comm _ _ _ _
  have e3 : (y * v) * (y * v) = (y * y) * (v * v) := Nat.mul_mul_mul_comm _ _ _ _
  have e4 : (x * v) * (x * v) = (x * x) * (v * v) := Nat.mul_mul_mul_comm _ _ _ _
  have e5 : (y * u) * (y * u) = (y * y) * (u * u) := Nat.mul_mul_mul_comm _ _ _ _
  have e6 : (y * v) * (x * u) = (x * u) * (y * v) := Nat.mul_comm _ _
  simp only [Nat.add_mul, Nat.mul_add]
  rw [e6, e1, e2, e3]
  rw [e4, e5] at h
  omega
theorem sq_up {a b : Nat} (h : a ≤ b) : a * a ≤ b * b := Nat.mul_le_mul h h
theorem tri_nat (x y u v z t : Nat) (hz : z ≤ x + u) (ht : t ≤ y + v) : isq (z * z + t * t) ≤ isq (x * x + y * y) + isq (u * u + v * v) + 1 := by
  have h1 := isq_lt (x * x + y * y)
  have h2 := isq_lt (u * u + v * v)
  have h3 := cauchy x y u v
  generalize isq (x * x + y * y) = a at *
  generalize isq (u * u + v * v) = b at *
  have h4 : z * z + t * t < (a + b + 1 + 1) * (a + b + 1 + 1) := by
    have q1 := sq_up hz
    have q2 := sq_up ht
    have q3 : (x + u) * (x + u) + (y + v) * (y + v) = (x * x + y * y) + (u * u + v * v) + 2 * (x * u + y * v) := by
      simp only [Nat.add_mul, Nat.mul_add]
      have := Nat.mul_comm x u
      have := Nat.mul_comm y v
      omega
    have q4 : (a + b + 1 + 1) * (a + b + 1 + 1) = (a + 1) * (a + 1) + (b + 1) * (b + 1) + 2 * ((a + 1) * (b + 1)) := by
      rw [show a + b + 1 + 1 = (a + 1) + (b + 1) from by omega]
      generalize a + 1 = p
      generalize b + 1 = q
      simp only [Nat.add_mul, Nat.mul_add]
      have := Nat.mul_comm p q
      omega
    have q5 : x * u + y * v < (a + 1) * (b + 1) := by
      apply sq_mono
      refine Nat.lt_of_le_of_lt h3 ?_
      rw [Nat.mul_mul_mul_comm]
      exact Nat.mul_lt_mul'' h1 h2
    omega
  have := isq_below h4
  omega
theorem tri (ax ay bx bY dx dY : Int) (t1 : -4194303 ≤ ax ∧ ax ≤ 4194303) (t2 : -4194303 ≤ ay ∧ ay ≤ 4194303) (t3 : -4194303 ≤ bx ∧ bx ≤ 4194303) (t4 : -4194303 ≤ bY ∧ bY ≤ 4194303) (t5 : -4194303 ≤ dx ∧ dx ≤ 4194303) (t6 : -4194303 ≤ dY ∧ dY ≤ 4194303) :
    ∃ a b c : Nat, distN ax ay bx bY = a ∧ distN bx bY dx dY = b ∧ distN ax ay dx dY = c ∧ distN bx bY ax ay = a ∧ c ≤ a + b + 1 ∧ a ≤ 16777216 ∧ b ≤ 16777216 ∧ c ≤ 16777216 ∧ (a = 0 ↔ ax = bx ∧ ay = bY) := by
  have k : ∀ x y u v : Int, okPos x = true → okPos y = true → okPos u = true → okPos v = true → distN x y u v = (isq (sqd (x - u) (y - v)) : Nat) := by
    intro x y u v h1 h2 h3 h4
    unfold distN
    rw [h1, h2, h3, h4, sqd_of]; rfl
  have o1 := okPos_t t1
  have o2 := okPos_t t2
  have o3 := okPos_t t3
  have o4 := okPos_t t4
  have o5 := okPos_t t5
  have o6 := okPos_t t6
  have bd : ∀ x y : Int, x.natAbs ≤ 8388607 → y.natAbs ≤ 8388607 → isq (sqd x y) ≤ 16777216 := by
    intro x y h1 h2
    have q1 := sq_up h1
    have q2 := sq_up h2
    have : isq (sqd x y) < 16777217 := isq_below (by unfold sqd; omega)
    omega
  refine ⟨_, _, _, k _ _ _ _ o1 o2 o3 o4, k _ _ _ _ o3 o4 o5 o6, k _ _ _ _ o1 o2 o5 o6, ?_, ?_, bd _ _ (by omega) (by omega), bd _ _ (by omega) (by omega), bd _ _ (by omega) (by omega), ?_⟩
  · rw [k _ _ _ _ o3 o4 o1 o2]
    unfold sqd
    rw [show (bx - ax).natAbs = (ax - bx).natAbs from by omega, show (bY - ay).natAbs = (ay - bY).natAbs from by omega]
  · exact tri_nat _ _ _ _ _ _ (by omega) (by omega)
  · constructor
    · intro h
      have h1 := isq_lt (sqd (ax - bx) (ay - bY))
      rw [h] at h1
      unfold sqd at h1
      have z1 : (ax - bx).natAbs * (ax - bx).natAbs = 0 := by omega
      have z2 : (ay - bY).natAbs * (ay - bY).natAbs = 0 := by omega
      have z3 := (Nat.mul_eq_zero.1 z1).elim id id
      have z4 := (Nat.mul_eq_zero.1 z2).elim id id
      omega
    · rintro ⟨rfl, rfl⟩
      rw [Int.sub_self, Int.sub_self]
      exact isq_eq (by decide) (by decide)

set_option maxRecDepth 100000 in
set_option maxHeartbeats 8000000 in
theorem walk (px py qx qy sx sy : Int) (w : World) :
    Calls Try.prog 6 #[.agg #[.int .i64 px, .int .i64 py], .agg #[.int .i64 qx, .int .i64 qy], .agg #[.int .i64 sx, .int .i64 sy]] w fun e w' => e = .returned (.bool true) ∧ Below w.heap.size w w' := by
  have hB : Below w.heap.size w w := Below.refl _ _
  go_enter Try.func6, Try.ntmps6
  go_upto_region 1 with fail
  obtain ⟨w0, hW⟩ : ∃ w0, w0 = ((w.alloc (.cells #[.int .i64 px, .int .i64 py] 23)).alloc (.cells #[.int .i64 qx, .int .i64 qy] 23)).alloc (.cells #[.int .i64 sx, .int .i64 sy] 23) := ⟨_, rfl⟩
  rw [← hW]
  have c0 : w0.cell? ⟨w.heap.size, 0, none⟩ = some (.int .i64 px) := by rw [hW]; go_simp
  have f0 : w0.frozen? ⟨w.heap.size, 0, none⟩ = false := by rw [hW]; go_simp
  have c1 : w0.cell? ⟨w.heap.size, 1, none⟩ = some (.int .i64 py) := by rw [hW]; go_simp
  have f1 : w0.frozen? ⟨w.heap.size, 1, none⟩ = false := by rw [hW]; go_simp
  have c2 : w0.cell? ⟨w.heap.size + 1, 0, none⟩ = some (.int .i64 qx) := by rw [hW]; go_simp
  have f2 : w0.frozen? ⟨w.heap.size + 1, 0, none⟩ = false := by rw [hW]; go_simp
  have c3 : w0.cell? ⟨w.heap.size + 1, 1, none⟩ = some (.int .i64 qy) := by rw [hW]; go_simp
  have f3 : w0.frozen? ⟨w.heap.size + 1, 1, none⟩ = false := by rw [hW]; go_simp
  have c4 : w0.cell? ⟨w.heap.size + 1 + 1, 0, none⟩ = some (.int .i64 sx) := by rw [hW]; go_simp
  have f4 : w0.frozen? ⟨w.heap.size + 1 + 1, 0, none⟩ = false := by rw [hW]; go_simp
  have c5 : w0.cell? ⟨w.heap.size + 1 + 1, 1, none⟩ = some (.int .i64 sy) := by rw [hW]; go_simp
  have f5 : w0.frozen? ⟨w.heap.size + 1 + 1, 1, none⟩ = false := by rw [hW]; go_simp
  have hz : w0.heap.size = w.heap.size + 1 + 1 + 1 := by rw [hW]; simp
  have hB' : Below w.heap.size w w0 := by rw [hW]; exact (by repeat (first | with_reducible exact hB | with_reducible exact Below.refl _ _ | with_reducible apply Below.drew | with_reducible apply below_drewN | with_reducible refine Below.alloc ?_ (by first | (simp; done) | (simp; omega) | omega) _ | with_reducible refine Below.setCell ?_ (by first | (simp; done) | (simp; omega) | omega) _))
  have HZ := Lib.hid hz
  have hB := hB'
  clear hz hB'
  clear hW
  have t1 := tmod_b px
  have t2 := tmod_b py
  have t3 := tmod_b qx
  have t4 := tmod_b qy
  have t5 := tmod_b sx
  have t6 := tmod_b sy
  go_cut [10] (fun _ w1 => w1.cell? ⟨w.heap.size, 0, none⟩ = some (.int .i64 (px.tmod 4194304)) ∧ w1.cell? ⟨w.heap.size, 1, none⟩ = some (.int .i64 (py.tmod 4194304)) ∧ w1.cell? ⟨w.heap.size + 1, 0, none⟩ = some (.int .i64 (qx.tmod 4194304)) ∧ w1.cell? ⟨w.heap.size + 1, 1, none⟩ = some (.int .i64 (qy.tmod 4194304)) ∧ w1.cell? ⟨w.heap.size + 1 + 1, 0, none⟩ = some (.int .i64 (sx.tmod 4194304)) ∧ w1.cell? ⟨w.heap.size + 1 + 1, 1, none⟩ = some (.int .i64 (sy.tmod 4194304)) ∧ w1.heap.size = w.heap.size + 1 + 1 + 1 ∧ Below w.heap.size w w1)
  case first =>
    go_region
    all_goals
      go_wp2_with fail
      go_meet
      refine ⟨?_, ?_, ?_, ?_, ?_, ?_, ?_, ?_⟩
      · exact cell_drew_keep (cell_set_keep (cell_set_keep (cell_set_keep (cell_set_keep (cell_set_keep (cell_set_same c0) (by first | (simp only [ne_eq, Addr.mk.injEq, and_true]; omega) | (simp; done) | (simp; omega))) (by first | (simp only [ne_eq, Addr.mk.injEq, and_true]; omega) | (simp; done) | (simp; omega))) (by first | (simp only [ne_eq, Addr.mk.injEq, and_true]; omega) | (simp; done) | (simp; omega))) (by first | (simp only [ne_eq, Addr.mk.injEq, and_true]; omega) | (simp; done) | (simp; omega))) (by first | (simp only [ne_eq, Addr.mk.injEq, and_true]; omega) | (simp; done) | (simp; omega)))
      · exact cell_drew_keep (cell_set_keep (cell_set_keep (cell_set_keep (cell_set_keep (cell_set_same (cell_set_keep c1 (by first | (simp only [ne_eq, Addr.mk.injEq, and_true]; omega) | (simp; done) | (simp; omega)))) (by first | (simp only [ne_eq, Addr.mk.injEq, and_true]; omega) | (simp; done) | (simp; omega))) (by first | (simp only [ne_eq, Addr.mk.injEq, and_true]; omega) | (simp; done) | (simp; omega))) (by first | (simp only [ne_eq, Addr.mk.injEq, and_true]; omega) | (simp; done) | (simp; omega))) (by first | (simp only [ne_eq, Addr.mk.injEq, and_true]; omega) | (simp; done) | (simp; omega)))
      · exact cell_drew_keep (cell_set_keep (cell_set_keep (cell_set_keep (cell_set_same (cell_set_keep (cell_set_keep c2 (by first | (simp only [ne_eq, Addr.mk.injEq, and_true]; omega) | (simp; done) | (simp; omega))) (by first | (simp only [ne_eq, Addr.mk.injEq, and_true]; omega) | (simp; done) | (simp; omega)))) (by first | (simp only [ne_eq, Addr.mk.injEq, and_true]; omega) | (simp; done) | (simp; omega))) (by first | (simp only [ne_eq, Addr.mk.injEq, and_true]; omega) | (simp; done) | (simp; omega))) (by first | (simp only [ne_eq, Addr.mk.injEq, and_true]; omega) | (simp; done) | (simp; omega)))
      · exact cell_drew_keep (cell_set_keep (cell_set_keep (cell_set_same (cell_set_keep (cell_set_keep (cell_set_keep c3 (by first | (simp only [ne_eq, Addr.mk.injEq, and_true]; omega) | (simp; done) | (simp; omega))) (by first | (simp only [ne_eq, Addr.mk.injEq, and_true]; omega) | (simp; done) | (simp; omega))) (by first | (simp only [ne_eq, Addr.mk.injEq, and_true]; omega) | (simp; done) | (simp; omega)))) (by first | (simp only [ne_eq, Addr.mk.injEq, and_true]; omega) | (simp; done) | (simp; omega))) (by first | (simp only [ne_eq, Addr.mk.injEq, and_true]; omega) | (simp; done) | (simp; omega)))
      · exact cell_drew_keep (cell_set_keep (cell_set_same (cell_set_keep (cell_set_keep (cell_set_keep (cell_set_keep c4 (by first | (simp only [ne_eq, Addr.mk.injEq, and_true]; omega) | (simp; done) | (simp; omega))) (by first | (simp only [ne_eq, Addr.mk.injEq, and_true]; omega) | (simp; done) | (simp; omega))) (by first | (simp only [ne_eq, Addr.mk.injEq, and_true]; omega) | (simp; done) | (simp; omega))) (by first | (simp only [ne_eq, Addr.mk.injEq, and_true]; omega) | (simp; done) | (simp; omega)))) (by first | (simp only [ne_eq, Addr.mk.injEq, and_true]; omega) | (simp; done) | (simp; omega)))
      · exact cell_drew_keep (cell_set_same (cell_set_keep (cell_set_keep (cell_set_keep (cell_set_keep (cell_set_keep c5 (by first | (simp only [ne_eq, Addr.mk.injEq, and_true]; omega) | (simp; done) | (simp; omega))) (by first | (simp only [ne_eq, Addr.mk.injEq, and_true]; omega) | (simp; done) | (simp; omega))) (by first | (simp only [ne_eq, Addr.mk.injEq, and_true]; omega) | (simp; done) | (simp; omega))) (by first | (simp only [ne_eq, Addr.mk.injEq, and_true]; omega) | (simp; done) | (simp; omega))) (by first | (simp only [ne_eq, Addr.mk.injEq, and_true]; omega) | (simp; done) | (simp; omega))))
      · have h := HZ.out
        simpa using h
      · exact (by repeat (first | with_reducible exact hB | with_reducible exact Below.refl _ _ | with_reducible apply Below.drew | with_reducible apply below_drewN | with_reducible refine Below.alloc ?_ (by first | (simp; done) | (simp; omega) | omega) _ | with_reducible refine Below.setCell ?_ (by first | (simp; done) | (simp; omega) | omega) _))
  case rest =>
    clear c0 f0 c1 f1 c2 f2 c3 f3 c4 f4 c5 f5 HZ hB
    generalize px.tmod 4194304 = ax at *
    generalize py.tmod 4194304 = ay at *
    generalize qx.tmod 4194304 = bx at *
    generalize qy.tmod 4194304 = bY at *
    generalize sx.tmod 4194304 = dx at *
    generalize sy.tmod 4194304 = dY at *
    obtain ⟨w1, rfl⟩ : ∃ w1, w1 = wc := ⟨_, rfl⟩
    obtain ⟨c0, c1, c2, c3, c4, c5, hz, hB⟩ := hcut
    have hz' : w.heap.size + 1 + 1 + 1 ≤ w1.heap.size := by omega
    clear hz
    obtain ⟨a, b, c, D1, D2, D3, D4, q1, q2, q3, q4, q5⟩ := tri ax ay bx bY dx dY t1 t2 t3 t4 t5 t6
    clear t1 t2 t3 t4 t5 t6
    go_wp2_with fail
    go_region_held3 (fun w' => w'.cell? ⟨w.heap.size, 0, none⟩ = some (.int .i64 ax) ∧ w'.cell? ⟨w.heap.size, 1, none⟩ = some (.int .i64 ay) ∧ w'.cell? ⟨w.heap.size + 1, 0, none⟩ = some (.int .i64 bx) ∧ w'.cell? ⟨w.heap.size + 1, 1, none⟩ = some (.int .i64 bY) ∧ w'.cell? ⟨w.heap.size + 1 + 1, 0, none⟩ = some (.int .i64 dx) ∧ w'.cell? ⟨w.heap.size + 1 + 1, 1, none⟩ = some (.int .i64 dY)) (first | (refine ⟨?_, ?_, ?_, ?_, ?_, ?_⟩ <;> (repeat (first | with_reducible assumption | with_reducible refine cell_drew_keep ?_ | with_reducible refine cell_alloc_keep ?_ | with_reducible refine cell_set_same ?_ | with_reducible refine cell_set_keep ?_ (by first | (simp only [ne_eq, Addr.mk.injEq, and_true]; omega) | (simp; done) | (simp; omega)))); done) | (go_keep; done) | (go_simp; done))
      (first | (go_at_call 16; refine (dist_any _ _ _ _ _).mono ?_; (first | (have _t := hb_wb; rintro e wd ⟨rfl, hb_wd⟩; have hz_wd := hb_wd.size; (try simp at hz_wd); obtain ⟨hc_wd, hf_wd⟩ := bcell hb_wd; have hB' : Below w.heap.size w wd := Below.trans (by repeat (first | with_reducible exact hB | with_reducible exact Below.refl _ _ | with_reducible apply Below.drew | with_reducible apply below_drewN | with_reducible refine Below.alloc ?_ (by first | (simp; done) | (simp; omega) | omega) _ | with_reducible refine Below.setCell ?_ (by first | (simp; done) | (simp; omega) | omega) _)) (hb_wd.mono (by first | (simp; done) | (simp; omega) | omega)); have hB := hB'; clear hB'; (try have l_wd_w0 : w.heap.size < wd.heap.size := by omega); (try have l_wd_w1 : w.heap.size + 1 < wd.heap.size := by omega); (try have l_wd_w2 : w.heap.size + 1 + 1 < wd.heap.size := by omega); (try have l_wd_w10 : w1.heap.size < wd.heap.size := by omega); (try have l_wd_w11 : w1.heap.size + 1 < wd.heap.size := by omega); (try have l_wd_w12 : w1.heap.size + 1 + 1 < wd.heap.size := by omega); (try have l_wd_wa0 : wa.heap.size < wd.heap.size := by omega); (try have l_wd_wa1 : wa.heap.size + 1 < wd.heap.size := by omega); (try have l_wd_wa2 : wa.heap.size + 1 + 1 < wd.heap.size := by omega); (try have l_wd_wb0 : wb.heap.size < wd.heap.size := by omega); (try have l_wd_wb1 : wb.heap.size + 1 < wd.heap.size := by omega); (try have l_wd_wb2 : wb.heap.size + 1 + 1 < wd.heap.size := by omega); have k_wd0 : wd.cell? ⟨w.heap.size, 0, none⟩ = some (.int .i64 ax) := (hb_wd.cell (by first | (simp; done) | (simp; omega) | omega)).trans (by first | (go_keep; done) | (go_simp; done)); have k_wd1 : wd.cell? ⟨w.heap.size, 1, none⟩ = some (.int .i64 ay) := (hb_wd.cell (by first | (simp; done) | (simp; omega) | omega)).trans (by first | (go_keep; done) | (go_simp; done)); have k_wd2 : wd.cell? ⟨w.heap.size + 1, 0, none⟩ = some (.int .i64 bx) := (hb_wd.cell (by first | (simp; done) | (simp; omega) | omega)).trans (by first | (go_keep; done) | (go_simp; done)); have k_wd3 : wd.cell? ⟨w.heap.size + 1, 1, none⟩ = some (.int .i64 bY) := (hb_wd.cell (by first | (simp; done) | (simp; omega) | omega)).trans (by first | (go_keep; done) | (go_simp; done)); have k_wd4 : wd.cell? ⟨w.heap.size + 1 + 1, 0, none⟩ = some (.int .i64 dx) := (hb_wd.cell (by first | (simp; done) | (simp; omega) | omega)).trans (by first | (go_keep; done) | (go_simp; done)); have k_wd5 : wd.cell? ⟨w.heap.size + 1 + 1, 1, none⟩ = some (.int .i64 dY) := (hb_wd.cell (by first | (simp; done) | (simp; omega) | omega)).trans (by first | (go_keep; done) | (go_simp; done)))| (have _t := hb_wa; rintro e wb ⟨rfl, hb_wb⟩; have hz_wb := hb_wb.size; (try simp at hz_wb); obtain ⟨hc_wb, hf_wb⟩ := bcell hb_wb; have hB' : Below w.heap.size w wb := Below.trans (by repeat (first | with_reducible exact hB | with_reducible exact Below.refl _ _ | with_reducible apply Below.drew | with_reducible apply below_drewN | with_reducible refine Below.alloc ?_ (by first | (simp; done) | (simp; omega) | omega) _ | with_reducible refine Below.setCell ?_ (by first | (simp; done) | (simp; omega) | omega) _)) (hb_wb.mono (by first | (simp; done) | (simp; omega) | omega)); have hB := hB'; clear hB'; (try have l_wb_w0 : w.heap.size < wb.heap.size := by omega); (try have l_wb_w1 : w.heap.size + 1 < wb.heap.size := by omega); (try have l_wb_w2 : w.heap.size + 1 + 1 < wb.heap.size := by omega); (try have l_wb_w10 : w1.heap.size < wb.heap.size := by omega); (try have l_wb_w11 : w1.heap.size + 1 < wb.heap.size := by omega); (try have l_wb_w12 : w1.heap.size + 1 + 1 < wb.heap.size := by omega); (try have l_wb_wa0 : wa.heap.size < wb.heap.size := by omega); (try have l_wb_wa1 : wa.heap.size + 1 < wb.heap.size := by omega); (try have l_wb_wa2 : wa.heap.size + 1 + 1 < wb.heap.size := by omega); have k_wb0 : wb.cell? ⟨w.heap.size, 0, none⟩ = some (.int .i64 ax) := (hb_wb.cell (by first | (simp; done) | (simp; omega) | omega)).trans (by first | (go_keep; done) | (go_simp; done)); have k_wb1 : wb.cell? ⟨w.heap.size, 1, none⟩ = some (.int .i64 ay) := (hb_wb.cell (by first | (simp; done) | (simp; omega) | omega)).trans (by first | (go_keep; done) | (go_simp; done)); have k_wb2 : wb.cell? ⟨w.heap.size + 1, 0, none⟩ = some (.int .i64 bx) := (hb_wb.cell (by first | (simp; done) | (simp; omega) | omega)).trans (by first | (go_keep; done) | (go_simp; done)); have k_wb3 : wb.cell? ⟨w.heap.size + 1, 1, none⟩ = some (.int .i64 bY) := (hb_wb.cell (by first | (simp; done) | (simp; omega) | omega)).trans (by first | (go_keep; done) | (go_simp; done)); have k_wb4 : wb.cell? ⟨w.heap.size + 1 + 1, 0, none⟩ = some (.int .i64 dx) := (hb_wb.cell (by first | (simp; done) | (simp; omega) | omega)).trans (by first | (go_keep; done) | (go_simp; done)); have k_wb5 : wb.cell? ⟨w.heap.size + 1 + 1, 1, none⟩ = some (.int .i64 dY) := (hb_wb.cell (by first | (simp; done) | (simp; omega) | omega)).trans (by first | (go_keep; done) | (go_simp; done)))| (rintro e wa ⟨rfl, hb_wa⟩; have hz_wa := hb_wa.size; (try simp at hz_wa); obtain ⟨hc_wa, hf_wa⟩ := bcell hb_wa; have hB' : Below w.heap.size w wa := Below.trans (by repeat (first | with_reducible exact hB | with_reducible exact Below.refl _ _ | with_reducible apply Below.drew | with_reducible apply below_drewN | with_reducible refine Below.alloc ?_ (by first | (simp; done) | (simp; omega) | omega) _ | with_reducible refine Below.setCell ?_ (by first | (simp; done) | (simp; omega) | omega) _)) (hb_wa.mono (by first | (simp; done) | (simp; omega) | omega)); have hB := hB'; clear hB'; (try have l_wa_w0 : w.heap.size < wa.heap.size := by omega); (try have l_wa_w1 : w.heap.size + 1 < wa.heap.size := by omega); (try have l_wa_w2 : w.heap.size + 1 + 1 < wa.heap.size := by omega); (try have l_wa_w10 : w1.heap.size < wa.heap.size := by omega); (try have l_wa_w11 : w1.heap.size + 1 < wa.heap.size := by omega); (try have l_wa_w12 : w1.heap.size + 1 + 1 < wa.heap.size := by omega); have k_wa0 : wa.cell? ⟨w.heap.size, 0, none⟩ = some (.int .i64 ax) := (hb_wa.cell (by first | (simp; done) | (simp; omega) | omega)).trans (by first | (go_keep; done) | (go_simp; done)); have k_wa1 : wa.cell? ⟨w.heap.size, 1, none⟩ = some (.int .i64 ay) := (hb_wa.cell (by first | (simp; done) | (simp; omega) | omega)).trans (by first | (go_keep; done) | (go_simp; done)); have k_wa2 : wa.cell? ⟨w.heap.size + 1, 0, none⟩ = some (.int .i64 bx) := (hb_wa.cell (by first | (simp; done) | (simp; omega) | omega)).trans (by first | (go_keep; done) | (go_simp; done)); have k_wa3 : wa.cell? ⟨w.heap.size + 1, 1, none⟩ = some (.int .i64 bY) := (hb_wa.cell (by first | (simp; done) | (simp; omega) | omega)).trans (by first | (go_keep; done) | (go_simp; done)); have k_wa4 : wa.cell? ⟨w.heap.size + 1 + 1, 0, none⟩ = some (.int .i64 dx) := (hb_wa.cell (by first | (simp; done) | (simp; omega) | omega)).trans (by first | (go_keep; done) | (go_simp; done)); have k_wa5 : wa.cell? ⟨w.heap.size + 1 + 1, 1, none⟩ = some (.int .i64 dY) := (hb_wa.cell (by first | (simp; done) | (simp; omega) | omega)).trans (by first | (go_keep; done) | (go_simp; done))))))
    have hB1 : Below w.heap.size w wd := hB
    have q1' : (c : Int) ≤ (a : Int) + (b : Int) + 1 := by omega
    have lz0 : w.heap.size < wd.heap.size := l_wd_w0
    have lz1 : w.heap.size + 1 < wd.heap.size := l_wd_w1
    have y0 := k_wd0
    have y1 := k_wd1
    have y2 := k_wd2
    have y3 := k_wd3
    clear k_wa0 k_wa1 k_wa2 k_wa3 k_wa4 k_wa5 k_wb0 k_wb1 k_wb2 k_wb3 k_wb4 k_wb5 k_wd0 k_wd1 k_wd2 k_wd3 k_wd4 k_wd5
    clear hc_wa hf_wa hc_wb hf_wb hc_wd hf_wd
    by_cases e1 : ax = bx
    · by_cases e2 : ay = bY
      · have a0 : a = 0 := q5.2 ⟨e1, e2⟩
        clear q5
        subst e1 e2 a0
        go_wp2_with fail
        refine (dist_any _ _ _ _ _).mono ?_
        rintro e we ⟨rfl, hb⟩
        have hB2 : Below w.heap.size w we := hB1.trans (hb.mono hB1.size)
        have y0' := (hb.cell (p := ⟨w.heap.size, 0, none⟩) lz0).trans y0
        have y1' := (hb.cell (p := ⟨w.heap.size, 1, none⟩) lz0).trans y1
        have y2' := (hb.cell (p := ⟨w.heap.size + 1, 0, none⟩) lz1).trans y2
        have y3' := (hb.cell (p := ⟨w.heap.size + 1, 1, none⟩) lz1).trans y3
        clear hb y0 y1 y2 y3
        go_wp2_with fail
        refine (awake_any _).mono ?_
        rintro e wf ⟨rfl, hb⟩
        have hB3 : Below w.heap.size w wf := hB2.trans (hb.mono hB2.size)
        go_wp2_with fail
        go_ret
        exact ⟨rfl, hB3⟩
      · have a0 : a ≠ 0 := fun h => e2 (q5.1 h).2
        clear q5
        subst e1
        have z1 : ((a : Int) == 0) = false := by simp; omega
        have z2 : (ay == bY) = false := by simpa using e2
        go_wp2_with fail
        refine (dist_any _ _ _ _ _).mono ?_
        rintro e we ⟨rfl, hb⟩
        have hB2 : Below w.heap.size w we := hB1.trans (hb.mono hB1.size)
        have y0' := (hb.cell (p := ⟨w.heap.size, 0, none⟩) lz0).trans y0
        have y1' := (hb.cell (p := ⟨w.heap.size, 1, none⟩) lz0).trans y1
        have y2' := (hb.cell (p := ⟨w.heap.size + 1, 0, none⟩) lz1).trans y2
        have y3' := (hb.cell (p := ⟨w.heap.size + 1, 1, none⟩) lz1).trans y3
        clear hb y0 y1 y2 y3
        go_wp2_with fail
        refine (awake_any _).mono ?_
        rintro e wf ⟨rfl, hb⟩
        have hB3 : Below w.heap.size w wf := hB2.trans (hb.mono hB2.size)
        go_wp2_with fail
        go_ret
        exact ⟨rfl, hB3⟩
    · have a0 : a ≠ 0 := fun h => e1 (q5.1 h).1
      clear q5
      have z1 : ((a : Int) == 0) = false := by simp; omega
      have z2 : (ax == bx) = false := by simpa using e1
      go_wp2_with fail
      refine (dist_any _ _ _ _ _).mono ?_
      rintro e we ⟨rfl, hb⟩
      have hB2 : Below w.heap.size w we := hB1.trans (hb.mono hB1.size)
      have y0' := (hb.cell (p := ⟨w.heap.size, 0, none⟩) lz0).trans y0
      have y1' := (hb.cell (p := ⟨w.heap.size, 1, none⟩) lz0).trans y1
      have y2' := (hb.cell (p := ⟨w.heap.size + 1, 0, none⟩) lz1).trans y2
      have y3' := (hb.cell (p := ⟨w.heap.size + 1, 1, none⟩) lz1).trans y3
      clear hb y0 y1 y2 y3
      go_wp2_with fail
      refine (awake_any _).mono ?_
      rintro e wf ⟨rfl, hb⟩
      have hB3 : Below w.heap.size w wf := hB2.trans (hb.mono hB2.size)
      go_wp2_with fail
      go_ret
      exact ⟨rfl, hB3⟩
set_option maxRecDepth 100000 in
theorem lifted (os : Os) (started : os.Started) (H : Type) (enc : TypeId × Value → H) :
    ReturnsInHanded {} Try.checked os 6 .any (Rows.turnTriangleSpec.pre6 enc Try.prog Try.f6 Rows.turnTriangleRow.domain false) (Rows.turnTriangleSpec.post enc Try.prog Try.f6 false true false false) := by
  refine law_lifted (C := Try.checked) (tb := 4) Try.own started (by kernel_rfl) Try.func6 Try.laidOut (by kernel_rfl) rfl Try.underlying4 rfl
    (fun ds hds => by match ds, hds with | [_, _, _], _ => rfl)
    (ChangeSpec.witness6 (enc := enc) (C := Try.checked) false ⟨#[], #[.agg #[.int .i64 0, .int .i64 0], .agg #[.int .i64 0, .int .i64 0], .agg #[.int .i64 0, .int .i64 0]], []⟩ 8 (by kernel_rfl) (by kernel_rfl) (by kernel_rfl) (by kernel_rfl)) ?_
  intro W base args ds p hval0 hA0 hsz0
  have hval : ∀ (j : Nat) t v, Try.f6.params[j]? = some t → args[j]? = some v → Value.okWide Try.prog W .any base t v := hval0
  have hA : DataW.TrodAll enc Try.prog W 0 (fun _ => true) true Try.f6.params.toList args.toList ds p := hA0
  have hsz : (DataW.weightsEach Try.prog Try.f6.params.toList ds).all (· ≤ reachBytes) = true := hsz0
  rw [Try.params6] at hA hval hsz
  obtain ⟨v0, vs0, d0, ds0, p0, q0, hargs, rfl, rfl, h0, r0⟩ := trodAll_cons hA
  obtain ⟨v1, vs1, d1, ds1, p1, q1, rfl, rfl, rfl, h1, r1⟩ := trodAll_cons r0
  obtain ⟨v2, vs2, d2, ds2, p2, q2, rfl, rfl, rfl, h2, r2⟩ := trodAll_cons r1
  obtain ⟨rfl, rfl, rfl⟩ := trodAll_nil r2
  obtain rfl : args = #[v0, v1, v2] := by cases args; simp_all
  obtain ⟨x0, y0, rfl, wx0, wy0⟩ := open_point (hval 0 _ v0 rfl rfl) h0
  obtain ⟨x1, y1, rfl, wx1, wy1⟩ := open_point (hval 1 _ v1 rfl rfl) h1
  obtain ⟨x2, y2, rfl, wx2, wy2⟩ := open_point (hval 2 _ v2 rfl rfl) h2
  exact walk x0 y0 x1 y1 x2 y2 W

theorem proved : Rows.TurnTriangleSaid :=
  OpenClaim.holds_of_wide 6 Try.f6 rfl rfl rfl rfl rfl rfl rfl ⟨rfl, rfl, rfl, rfl, rfl⟩ rfl rfl rfl rfl rfl (by kernel_rfl) Try.func6 (by kernel_rfl)
    (of_decide_eq_true (by kernel_rfl)) (by unfold Func.isWrapper; rw [if_neg (by decide +kernel)]; exact ⟨rfl, rfl⟩)
    (fun os started H enc _ => lifted os started H enc)
#print axioms proved

end Go.Proofs.Ytkjeebabcdnjkaa.turnTriangle
