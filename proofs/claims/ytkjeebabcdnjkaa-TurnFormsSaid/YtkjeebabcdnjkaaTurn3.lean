/-
  The walks of turn: Quarter, Norm; the law's awake.
-/
import Derived.Test.YtkjeebabcdnjkaaTurn2
import Derived.Test.YtkjeebabcdnjkaaTurnN
import Derived.Laws.BitsAllLaws
set_option linter.unusedVariables false
namespace Go.Proofs.Ytkjeebabcdnjkaa
open Go.RowKit

/-- x and y after n quarter turns. -/
def rotX (n : Nat) (x y : Int) : Int := if n % 4 = 0 then x else if n % 4 = 1 then -y else if n % 4 = 2 then -x else y
def rotY (n : Nat) (x y : Int) : Int := if n % 4 = 0 then y else if n % 4 = 1 then x else if n % 4 = 2 then -y else -x

theorem rotX_succ (n : Nat) (x y : Int) : rotX (n + 1) x y = -rotY n x y := by
  unfold rotX rotY
  rcases (by omega : n % 4 = 0 ∨ n % 4 = 1 ∨ n % 4 = 2 ∨ n % 4 = 3) with h | h | h | h
  · rw [show (n + 1) % 4 = 1 from by omega, h]; simp
  · rw [show (n + 1) % 4 = 2 from by omega, h]; simp
  · rw [show (n + 1) % 4 = 3 from by omega, h]; simp
  · rw [show (n + 1) % 4 = 0 from by omega, h]; simp
theorem rotY_succ (n : Nat) (x y : Int) : rotY (n + 1) x y = rotX n x y := by
  unfold rotX rotY
  rcases (by omega : n % 4 = 0 ∨ n % 4 = 1 ∨ n % 4 = 2 ∨ n % 4 = 3) with h | h | h | h
  · rw [show (n + 1) % 4 = 1 from by omega, h]; simp
  · rw [show (n + 1) % 4 = 2 from by omega, h]; simp
  · rw [show (n + 1) % 4 = 3 from by omega, h]; simp
  · rw [show (n + 1) % 4 = 0 from by omega, h]; simp
theorem rotX_b (n : Nat) (x y : Int) (B : Int) (hx : -B ≤ x ∧ x ≤ B) (hy : -B ≤ y ∧ y ≤ B) : -B ≤ rotX n x y ∧ rotX n x y ≤ B := by
  unfold rotX; repeat' split
  all_goals omega
theorem rotY_b (n : Nat) (x y : Int) (B : Int) (hx : -B ≤ x ∧ x ≤ B) (hy : -B ≤ y ∧ y ≤ B) : -B ≤ rotY n x y ∧ rotY n x y ≤ B := by
  unfold rotY; repeat' split
  all_goals omega

/-- How many quarters 'k & 3' are. -/
def q4 (k : Int) : Nat := (k % 4).toNat
theorem q4_lt (k : Int) : q4 k < 4 := by unfold q4; omega

theorem and3 (k : Int) : bits .and .i64 k 3 = (q4 k : Int) := by
  show IntKind.i64.wrap ((BitVec.ofInt 64 k &&& BitVec.ofInt 64 3).toNat : Int) = _
  have h1 : (BitVec.ofInt 64 k &&& BitVec.ofInt 64 3).toNat = (BitVec.ofInt 64 k).toNat % 4 := by
    rw [BitVec.toNat_and, show (BitVec.ofInt 64 3).toNat = 2 ^ 2 - 1 from rfl, Nat.and_two_pow_sub_one_eq_mod]
  have h2 : (BitVec.ofInt 64 k).toNat = (k % 18446744073709551616).toNat := by
    rw [BitVec.toNat_ofInt]; rfl
  rw [h1, h2, IntKind.wrap_i64]
  unfold q4
  omega

def quarX (x y k : Int) : Int := rotX (q4 k) (cx x y) (cy x y)
def quarY (x y k : Int) : Int := rotY (q4 k) (cx x y) (cy x y)

set_option maxHeartbeats 1000000 in
theorem quarter_any (x y k : Int) (w : World) :
    Calls Try.prog 10 #[.agg #[.int .i64 x, .int .i64 y], .int .i64 k] w fun e w' => e = .returned (.agg #[.int .i64 (quarX x y k), .int .i64 (quarY x y k)]) ∧ Below w.heap.size w w' := by
  have hB : Below w.heap.size w w := Below.refl _ _
  have bx := cx_b x y
  have bY := cy_b x y
  have hq := and3 k
  have hq4 := q4_lt k
  have HX : Hid (quarX x y k = rotX (q4 k) (cx x y) (cy x y)) := rfl
  have HY : Hid (quarY x y k = rotY (q4 k) (cx x y) (cy x y)) := rfl
  have hRe : Hid (FZ.W (ofR x y) (cx x y)) := w_ofR x y
  have hIm : Hid (FZ.W (ofI x y) (cy x y)) := w_ofI x y
  generalize quarX x y k = QX at *
  generalize quarY x y k = QY at *
  generalize cx x y = X at *
  generalize cy x y = Y at *
  generalize hR : ofR x y = R at *
  generalize hI : ofI x y = I at *
  have HR := Lib.hid hR
  have HI := Lib.hid hI
  clear hR hI
  generalize q4 k = n at *
  go_enter Try.func10, Try.ntmps10
  go_wp2_with (first | (go_at_call 14; refine (of_any _ _ _).mono ?_; rintro e w1 ⟨rfl, hb⟩; have hz := hb.size; (try simp at hz); have hB' : Below w.heap.size w w1 := Below.trans (by repeat (first | exact Below.refl _ _ | exact hB | apply Below.drew | refine Below.alloc ?_ (by first | (simp; done) | (simp; omega) | omega) _ | refine Below.setCell ?_ (by first | (simp; done) | (simp; omega) | omega) _)) (hb.mono (by first | (simp; done) | (simp; omega) | omega)); have hB := hB'; clear hB'; have k0 : w1.cell? ⟨w.heap.size + 1, 0, none⟩ = some (.int .i64 0) := (hb.cell (by first | (simp; done) | (simp; omega) | omega)).trans (by first | (go_keep; done) | (go_simp; done)); have k1 : w1.cell? ⟨w.heap.size + 1, 1, none⟩ = some (.int .i64 0) := (hb.cell (by first | (simp; done) | (simp; omega) | omega)).trans (by first | (go_keep; done) | (go_simp; done)); have f0 : w1.frozen? ⟨w.heap.size + 1, 0, none⟩ = false := (hb.frozen (by first | (simp; done) | (simp; omega) | omega)).trans (by first | (go_keep; done) | (go_simp; done)); have f1 : w1.frozen? ⟨w.heap.size + 1, 1, none⟩ = false := (hb.frozen (by first | (simp; done) | (simp; omega) | omega)).trans (by first | (go_keep; done) | (go_simp; done))))
  rw [HR.out, HI.out]
  clear HR HI
  go_loop [5, 10] (fun z i => ∃ j a b : Nat, j ≤ n ∧ i = .int .i64 j ∧ z = .complex .f64 a b ∧ Hid (FZ.W a (rotX j X Y)) ∧ Hid (FZ.W b (rotY j X Y))) (fun _ i => n - (intOf i).toNat)
  case atStart => exact ⟨0, R, I, Nat.zero_le _, rfl, rfl, hRe, hIm⟩
  case round =>
    obtain ⟨j, a, b, hj, rfl, rfl, ha, hb'⟩ := hrel
    have rx := rotX_b j X Y 4194304 bx bY
    have ry := rotY_b j X Y 4194304 bx bY
    by_cases hlt : j < n
    · obtain ⟨p, q, hm, hp, hq'⟩ := FZ.W.cmul ha.out hb'.out w_zero FZ.one_bits 4194304 rx ry 1 (by decide) (by decide) (by decide)
      have hmul := fun w : World => run_complex_mul (P := Try.prog) w 32 _ _ _ _ _ _ hm
      have HP : Hid (FZ.W p (rotX (j + 1) X Y)) := by
        show FZ.W p _
        rw [rotX_succ]
        rwa [show rotX j X Y * 0 - rotY j X Y * 1 = -rotY j X Y from by omega] at hp
      have HQ : Hid (FZ.W q (rotY (j + 1) X Y)) := by
        show FZ.W q _
        rw [rotY_succ]
        rwa [show rotX j X Y * 1 + rotY j X Y * 0 = rotX j X Y from by omega] at hq'
      clear hm hp hq' ha hb' rx ry
      go_wp2_with fail
      go_round
      case rel => exact ⟨j + 1, p, q, by omega, by go_num, rfl, HP, HQ⟩
      case measure => simp [intOf]; omega
    · obtain rfl : j = n := by omega
      have hc1 := conv_int a _ ha.out (by omega)
      have hc2 := conv_int b _ hb'.out (by omega)
      rw [← HX.out] at hc1
      rw [← HY.out] at hc2
      clear HX HY ha hb' rx ry
      go_wp2_with fail
      exact bodyPost_ret (v := .agg #[.int .i64 QX, .int .i64 QY]) (by simp [results, Try.results10, go_sem, k0, k1]) rfl ⟨rfl, (by repeat (first | exact Below.refl _ _ | exact hB | apply Below.drew | refine Below.alloc ?_ (by first | (simp; done) | (simp; omega) | omega) _ | refine Below.setCell ?_ (by first | (simp; done) | (simp; omega) | omega) _))⟩

/-! ### awake -/
set_option maxHeartbeats 400000 in
theorem awake_any (w : World) : Calls Try.prog 12 #[] w fun e w' => e = .returned (.bool true) ∧ Below w.heap.size w w' := by
  have hB : Below w.heap.size w w := Below.refl _ _
  have n1 : quarX 1 2 1 = -2 := by decide
  have n2 : quarY 1 2 1 = 1 := by decide
  have n3 : normN 3 4 = 25 := by decide
  have N1 := Lib.hid n1
  have N2 := Lib.hid n2
  have N3 := Lib.hid n3
  clear n1 n2 n3
  go_enter Try.func12, Try.ntmps12
  go_wp2_with fail
  refine (quarter_any _ _ _ _).mono ?_
  rintro e w1 ⟨rfl, hb⟩
  rw [N1.out, N2.out]
  go_wp2_with fail
  refine (norm_any _ _ _).mono ?_
  rintro e w2 ⟨rfl, hb2⟩
  rw [N3.out]
  go_wp2_with fail
  go_ret
  have hB := hb
  have hz := hb.size
  exact ⟨rfl, Below.trans (by repeat (first | exact Below.refl _ _ | exact hB | apply Below.drew | refine Below.alloc ?_ (by first | (simp; done) | (simp; omega) | omega) _ | refine Below.setCell ?_ (by first | (simp; done) | (simp; omega) | omega) _)) (hb2.mono (by first | (simp; done) | (simp; omega) | omega))⟩
end Go.Proofs.Ytkjeebabcdnjkaa
