/-
  The walk of turn.Mul.
-/
import Derived.Test.YtkjeebabcdnjkaaTurnS
set_option linter.unusedVariables false
namespace Go.Proofs.Ytkjeebabcdnjkaa
open Go.RowKit

/-! ### Mul -/
def mulX (px py qx qy : Int) : Int := cx px py * cx qx qy - cy px py * cy qx qy
def mulY (px py qx qy : Int) : Int := cx px py * cy qx qy + cy px py * cx qx qy

theorem mulX_b (px py qx qy : Int) : -35184372088832 ≤ mulX px py qx qy ∧ mulX px py qx qy ≤ 35184372088832 := by
  have h1 := prod_b 4194304 (cx_b px py) 4194304 (cx_b qx qy)
  have h2 := prod_b 4194304 (cy_b px py) 4194304 (cy_b qx qy)
  unfold mulX; omega
theorem mulY_b (px py qx qy : Int) : -35184372088832 ≤ mulY px py qx qy ∧ mulY px py qx qy ≤ 35184372088832 := by
  have h1 := prod_b 4194304 (cx_b px py) 4194304 (cy_b qx qy)
  have h2 := prod_b 4194304 (cy_b px py) 4194304 (cx_b qx qy)
  unfold mulY; omega

theorem conv_int (b : Nat) (z : Int) (h : FZ.W b z) (hz : -9223372036854775808 ≤ z ∧ z ≤ 9223372036854775807) : ∀ w : World, (convert 29 2 (.float .f64 b)).run Try.prog w = .ok (.int .i64 z) w := fun w =>
  run_convert_float_int w _ _ _ _ _ _ (by rw [Try.underlying29]; rfl) Try.underlying2 (h.toInt hz)

set_option maxHeartbeats 1000000 in
theorem mul_any (px py qx qy : Int) (w : World) :
    Calls Try.prog 9 #[.agg #[.int .i64 px, .int .i64 py], .agg #[.int .i64 qx, .int .i64 qy]] w fun e w' => e = .returned (.agg #[.int .i64 (mulX px py qx qy), .int .i64 (mulY px py qx qy)]) ∧ Below w.heap.size w w' := by
  obtain ⟨p, q, hm, hp, hq⟩ := FZ.W.cmul (w_ofR px py) (w_ofI px py) (w_ofR qx qy) (w_ofI qx qy) 4194304 (cx_b px py) (cy_b px py) 4194304 (cx_b qx qy) (cy_b qx qy) (by decide)
  have hmul := fun w : World => run_complex_mul (P := Try.prog) w 32 _ _ _ _ _ _ hm
  have b1 := mulX_b px py qx qy
  have b2 := mulY_b px py qx qy
  have hc1 := conv_int p (mulX px py qx qy) hp (by omega)
  have hc2 := conv_int q (mulY px py qx qy) hq (by omega)
  clear hm hp hq b1 b2
  go_enter Try.func9, Try.ntmps9
  have hB : Below w.heap.size w w := Below.refl _ _
  go_wp2_with fail
  go_region_held3 (fun w' => w'.cell? ⟨w.heap.size, 0, none⟩ = some (.int .i64 px) ∧ w'.cell? ⟨w.heap.size, 1, none⟩ = some (.int .i64 py) ∧ w'.cell? ⟨w.heap.size + 1, 0, none⟩ = some (.int .i64 qx) ∧ w'.cell? ⟨w.heap.size + 1, 1, none⟩ = some (.int .i64 qy)) (go_keep)
    (first | (go_at_call 14; refine (of_any _ _ _).mono ?_; rintro e w1 ⟨rfl, hb⟩; have hz := hb.size; (try simp at hz); have hB' : Below w.heap.size w w1 := Below.trans (by repeat (first | exact Below.refl _ _ | exact hB | apply Below.drew | refine Below.alloc ?_ (by first | (simp; done) | (simp; omega) | omega) _ | refine Below.setCell ?_ (by first | (simp; done) | (simp; omega) | omega) _)) (hb.mono (by first | (simp; done) | (simp; omega) | omega)); have hB := hB'; clear hB'; have k0 : w1.cell? ⟨w.heap.size, 0, none⟩ = some (.int .i64 px) := (hb.cell (by first | (simp; done) | (simp; omega) | omega)).trans (by first | (go_keep; done) | (go_simp; done)); have k1 : w1.cell? ⟨w.heap.size, 1, none⟩ = some (.int .i64 py) := (hb.cell (by first | (simp; done) | (simp; omega) | omega)).trans (by first | (go_keep; done) | (go_simp; done)); have k2 : w1.cell? ⟨w.heap.size + 1, 0, none⟩ = some (.int .i64 qx) := (hb.cell (by first | (simp; done) | (simp; omega) | omega)).trans (by first | (go_keep; done) | (go_simp; done)); have k3 : w1.cell? ⟨w.heap.size + 1, 1, none⟩ = some (.int .i64 qy) := (hb.cell (by first | (simp; done) | (simp; omega) | omega)).trans (by first | (go_keep; done) | (go_simp; done)); have k4 : w1.cell? ⟨w.heap.size + 1 + 1, 0, none⟩ = some (.int .i64 0) := (hb.cell (by first | (simp; done) | (simp; omega) | omega)).trans (by first | (go_keep; done) | (go_simp; done)); have k5 : w1.cell? ⟨w.heap.size + 1 + 1, 1, none⟩ = some (.int .i64 0) := (hb.cell (by first | (simp; done) | (simp; omega) | omega)).trans (by first | (go_keep; done) | (go_simp; done)); have f0 : w1.frozen? ⟨w.heap.size + 1 + 1, 0, none⟩ = false := (hb.frozen (by first | (simp; done) | (simp; omega) | omega)).trans (by first | (go_keep; done) | (go_simp; done)); have f1 : w1.frozen? ⟨w.heap.size + 1 + 1, 1, none⟩ = false := (hb.frozen (by first | (simp; done) | (simp; omega) | omega)).trans (by first | (go_keep; done) | (go_simp; done))))
  go_wp2_with fail
  exact bodyPost_ret (v := .agg #[.int .i64 (mulX px py qx qy), .int .i64 (mulY px py qx qy)]) (by simp [results, Try.results9, go_sem, k4, k5]) rfl ⟨rfl, (by repeat (first | exact Below.refl _ _ | exact hB | apply Below.drew | refine Below.alloc ?_ (by first | (simp; done) | (simp; omega) | omega) _ | refine Below.setCell ?_ (by first | (simp; done) | (simp; omega) | omega) _))⟩
end Go.Proofs.Ytkjeebabcdnjkaa
