/-
  The walk of Path.
-/
import Derived.Test.YtkjeebabcdnjkaaTurn3
import Derived.Test.YtkjeebabcdnjkaaPoint
set_option linter.unusedVariables false
namespace Go.Proofs.Ytkjeebabcdnjkaa
open Go.ChangeShapes Go.WideShapes Go.RowKit

/-- The cells of a slice of points. -/
def pts (l : List (Int × Int)) : Nat → Value := fun j => .int .i64 (if j % 2 = 0 then (l.getD (j / 2) (0, 0)).1 else (l.getD (j / 2) (0, 0)).2)

theorem pts_cells {w : World} {B : Nat} {A : Option Addr} {l : List (Int × Int)} {m : Nat} (h : Seg w B A m (pts l)) (k : Nat) (hk : k * 2 + 1 < m) :
    ∃ x, A = some x ∧ x.block < B ∧ w.cell? (x.add (k * 2)) = some (.int .i64 (l.getD k (0, 0)).1) ∧ w.cell? ⟨(x.add (k * 2)).block, (x.add (k * 2)).off + 1, none⟩ = some (.int .i64 (l.getD k (0, 0)).2) := by
  obtain ⟨x, ex, hb, hc⟩ := h (by omega)
  refine ⟨x, ex, hb, ?_, ?_⟩
  · rw [hc _ (by omega)]; unfold pts; rw [if_pos (by omega), show k * 2 / 2 = k from by omega]
  · have h1 := hc (k * 2 + 1) (by omega)
    rw [← add_add] at h1
    have h2 : w.cell? ⟨(x.add (k * 2)).block, (x.add (k * 2)).off + 1, none⟩ = w.cell? ((x.add (k * 2)).add 1) := by unfold Addr.add; simp
    rw [h2, h1]; unfold pts; rw [if_neg (by omega), show (k * 2 + 1) / 2 = k from by omega]

/-- The i-th step, turned. -/
def tX (q : Nat) (l : List (Int × Int)) (i : Nat) : Int := quarX (l.getD i (0, 0)).1 (l.getD i (0, 0)).2 ((q * (i + 1) : Nat) : Int)
def tY (q : Nat) (l : List (Int × Int)) (i : Nat) : Int := quarY (l.getD i (0, 0)).1 (l.getD i (0, 0)).2 ((q * (i + 1) : Nat) : Int)
def psX (q : Nat) (l : List (Int × Int)) : Nat → Int
  | 0 => 0
  | n + 1 => psX q l n + tX q l n
def psY (q : Nat) (l : List (Int × Int)) : Nat → Int
  | 0 => 0
  | n + 1 => psY q l n + tY q l n
theorem tX_b (q : Nat) (l : List (Int × Int)) (i : Nat) : -4194304 ≤ tX q l i ∧ tX q l i ≤ 4194304 := rotX_b _ _ _ _ (cx_b _ _) (cy_b _ _)
theorem tY_b (q : Nat) (l : List (Int × Int)) (i : Nat) : -4194304 ≤ tY q l i ∧ tY q l i ≤ 4194304 := rotY_b _ _ _ _ (cx_b _ _) (cy_b _ _)
theorem psX_b (q : Nat) (l : List (Int × Int)) (n : Nat) : -(4194304 * n : Int) ≤ psX q l n ∧ psX q l n ≤ 4194304 * n := by
  induction n with
  | zero => simp [psX]
  | succ n ih => have := tX_b q l n; simp only [psX]; omega
theorem psY_b (q : Nat) (l : List (Int × Int)) (n : Nat) : -(4194304 * n : Int) ≤ psY q l n ∧ psY q l n ≤ 4194304 * n := by
  induction n with
  | zero => simp [psY]
  | succ n ih => have := tY_b q l n; simp only [psY]; omega
theorem tstp (q : Nat) (l : List (Int × Int)) (i : Nat) : stp (tX q l i) (tY q l i) = true := by
  have h1 := tX_b q l i
  have h2 := tY_b q l i
  exact stp_t (by omega)
theorem cx_of' {x y : Int} (h : stp x y = true) : cx x y = x := by unfold cx; rw [if_pos h]
theorem cy_of' {x y : Int} (h : stp x y = true) : cy x y = y := by unfold cy; rw [if_pos h]

/-- All of the first n are steps. -/
def okN (l : List (Int × Int)) : Nat → Bool
  | 0 => true
  | n + 1 => okN l n && stp (l.getD n (0, 0)).1 (l.getD n (0, 0)).2

def most (l : List (Int × Int)) : Nat := min l.length 64
def pathB (l : List (Int × Int)) (q : Nat) : Bool := okN l (most l) && stp (psX q l (most l)) (psY q l (most l))
def pathX (l : List (Int × Int)) (q : Nat) : Int := if okN l (most l) = true then cx (psX q l (most l)) (psY q l (most l)) else 0
def pathY (l : List (Int × Int)) (q : Nat) : Int := if okN l (most l) = true then cy (psX q l (most l)) (psY q l (most l)) else 0

theorem okN_false {l : List (Int × Int)} {j n : Nat} (hj : j < n) (h : stp (l.getD j (0, 0)).1 (l.getD j (0, 0)).2 = false) : okN l n = false := by
  induction n with
  | zero => omega
  | succ n ih =>
    simp only [okN]
    rcases Nat.lt_or_ge j n with hlt | hge
    · rw [ih hlt]; rfl
    · obtain rfl : j = n := by omega
      rw [h, Bool.and_false]

set_option maxHeartbeats 3200000 in
theorem path_any (A : Option Addr) (cap : Nat) (l : List (Int × Int)) (k : Int) (w : World) (hm : l.length ≤ 1152921504606846976) (hcap : l.length ≤ cap) (hs : Seg w w.heap.size A (l.length * 2) (pts l)) :
    Calls Try.prog 15 #[.slice A l.length cap, .int .i64 k] w fun e w' => e = .returned (.tuple #[.agg #[.int .i64 (pathX l (q4 k)), .int .i64 (pathY l (q4 k))], .bool (pathB l (q4 k))]) ∧ Below w.heap.size w w' := by
  have hB : Below w.heap.size w w := Below.refl _ _
  have HS := Lib.hid hs
  clear hs
  have hq := and3 k
  have hq4 := q4_lt k
  have hmost : most l ≤ 64 := Nat.min_le_right _ _
  have hmost2 : most l ≤ l.length := Nat.min_le_left _ _
  have hmin : most l = min l.length 64 := rfl
  have HM := Lib.hid hmin
  clear hmin
  have HX : Hid (∀ q, pathX l q = if okN l (most l) = true then cx (psX q l (most l)) (psY q l (most l)) else 0) := fun _ => rfl
  have HY : Hid (∀ q, pathY l q = if okN l (most l) = true then cy (psX q l (most l)) (psY q l (most l)) else 0) := fun _ => rfl
  have HB : Hid (∀ q, pathB l q = (okN l (most l) && stp (psX q l (most l)) (psY q l (most l)))) := fun _ => rfl
  generalize pathX l = PX at *
  generalize pathY l = PY at *
  generalize pathB l = PB at *
  generalize most l = m at *
  generalize hL : l.length = len at *
  have HL := Lib.hid hL
  clear hL
  generalize q4 k = q at *
  by_cases h64 : len ≤ 64
  · obtain rfl : m = len := by rw [HM.out]; omega
    go_enter Try.func15, Try.ntmps15
    go_wp2_with fail
    go_loopw [6, 7, 8, 15] (fun z _ _ i wr => ∃ j a b : Nat, j ≤ m ∧ i = .int .i64 j ∧ z = .complex .f64 a b ∧ Hid (FZ.W a (psX q l j)) ∧ Hid (FZ.W b (psY q l j)) ∧ Hid (okN l j = true) ∧ Below w.heap.size w wr ∧ w.heap.size < wr.heap.size ∧ wr.cell? ⟨w.heap.size, 0, none⟩ = some (.int .i64 0) ∧ wr.cell? ⟨w.heap.size, 1, none⟩ = some (.int .i64 0) ∧ wr.frozen? ⟨w.heap.size, 0, none⟩ = false ∧ wr.frozen? ⟨w.heap.size, 1, none⟩ = false) (fun _ _ _ i _ => m - (intOf i).toNat)
    case atStart => exact ⟨0, 0, 0, Nat.zero_le _, rfl, rfl, w_zero, w_zero, rfl, (by repeat (first | with_reducible exact hB | with_reducible exact Below.refl _ _ | with_reducible apply Below.drew | with_reducible apply below_drewN | with_reducible refine Below.alloc ?_ (by first | (simp; done) | (simp; omega) | omega) _ | with_reducible refine Below.setCell ?_ (by first | (simp; done) | (simp; omega) | omega) _)), by simp, by go_simp, by go_simp, by go_simp, by go_simp⟩
    case round =>
      obtain ⟨j, a, b, hj, rfl, rfl, ha, hb', hok, hB, hsz, o0, o1, g0, g1⟩ := hrel
      have bX := psX_b q l j
      have bY := psY_b q l j
      by_cases hlt : j < m
      · have hseg : Seg wr w.heap.size A (l.length * 2) (pts l) := by rw [HL.out]; exact HS.out.below hB
        obtain ⟨x, rfl, hxb, c0, c1⟩ := pts_cells hseg j (by rw [HL.out]; omega)
        clear hseg
        have tb1 := tX_b q l j
        have tb2 := tY_b q l j
        have HTX : Hid (quarX (l.getD j (0, 0)).1 (l.getD j (0, 0)).2 ((q * (j + 1) : Nat) : Int) = tX q l j) := rfl
        have HTY : Hid (quarY (l.getD j (0, 0)).1 (l.getD j (0, 0)).2 ((q * (j + 1) : Nat) : Int) = tY q l j) := rfl
        have HTS : Hid (stp (tX q l j) (tY q l j) = true) := tstp q l j
        have HPX : Hid (psX q l (j + 1) = psX q l j + tX q l j) := rfl
        have HPY : Hid (psY q l (j + 1) = psY q l j + tY q l j) := rfl
        have HOK : Hid (okN l (j + 1) = (okN l j && stp (l.getD j (0, 0)).1 (l.getD j (0, 0)).2)) := rfl
        have HOF : Hid (stp (l.getD j (0, 0)).1 (l.getD j (0, 0)).2 = false → okN l m = false) := fun h => okN_false hlt h
        generalize (l.getD j (0, 0)).1 = px at *
        generalize (l.getD j (0, 0)).2 = py at *
        generalize psX q l j = sX at *
        generalize psY q l j = sY at *
        generalize tX q l j = tx at *
        generalize tY q l j = ty at *
        cases hst : stp px py
        · have HST := Lib.hid hst
          clear hst
          go_wp2_with fail
          refine (may_any _ _ _).mono ?_
          rintro e w1 ⟨rfl, hb⟩
          have hz := hb.size
          try simp at hz
          have hB' : Below w.heap.size w w1 := Below.trans (by repeat (first | with_reducible exact hB | with_reducible exact Below.refl _ _ | with_reducible apply Below.drew | with_reducible apply below_drewN | with_reducible refine Below.alloc ?_ (by first | (simp; done) | (simp; omega) | omega) _ | with_reducible refine Below.setCell ?_ (by first | (simp; done) | (simp; omega) | omega) _)) (hb.mono (by first | (simp; done) | (simp; omega) | omega))
          have hB := hB'
          clear hB'
          have l0 : w.heap.size < w1.heap.size := by omega
          have l0a : w.heap.size ≤ w1.heap.size := by omega
          have l0b : w.heap.size ≤ w1.heap.size + 1 := by omega
          have k0 : w1.cell? ⟨w.heap.size, 0, none⟩ = some (.int .i64 0) := (hb.cell (by first | (simp; done) | (simp; omega) | omega)).trans (by first | (go_keep; done) | (go_simp; done))
          have k1 : w1.cell? ⟨w.heap.size, 1, none⟩ = some (.int .i64 0) := (hb.cell (by first | (simp; done) | (simp; omega) | omega)).trans (by first | (go_keep; done) | (go_simp; done))
          have f0 : w1.frozen? ⟨w.heap.size, 0, none⟩ = false := (hb.frozen (by first | (simp; done) | (simp; omega) | omega)).trans (by first | (go_keep; done) | (go_simp; done))
          have f1 : w1.frozen? ⟨w.heap.size, 1, none⟩ = false := (hb.frozen (by first | (simp; done) | (simp; omega) | omega)).trans (by first | (go_keep; done) | (go_simp; done))
          clear hb
          rw [HST.out]
          go_wp2_with fail
          have e0 : okN l m = false := HOF.out HST.out
          refine bodyPost_ret (v := .tuple #[.agg #[.int .i64 0, .int .i64 0], .bool false]) (by simp [results, Try.results15, go_sem, k0, k1]) rfl ⟨?_, (by repeat (first | with_reducible exact hB | with_reducible exact Below.refl _ _ | with_reducible apply Below.drew | with_reducible apply below_drewN | with_reducible refine Below.alloc ?_ (by first | (simp; done) | (simp; omega) | omega) _ | with_reducible refine Below.setCell ?_ (by first | (simp; done) | (simp; omega) | omega) _))⟩
          rw [HX.out, HY.out, HB.out, e0]
          rfl
        · have HST := Lib.hid hst
          clear hst
          go_wp2_with fail
          refine (may_any _ _ _).mono ?_
          rintro e w1 ⟨rfl, hb⟩
          have hz := hb.size
          try simp at hz
          have hB' : Below w.heap.size w w1 := Below.trans (by repeat (first | with_reducible exact hB | with_reducible exact Below.refl _ _ | with_reducible apply Below.drew | with_reducible apply below_drewN | with_reducible refine Below.alloc ?_ (by first | (simp; done) | (simp; omega) | omega) _ | with_reducible refine Below.setCell ?_ (by first | (simp; done) | (simp; omega) | omega) _)) (hb.mono (by first | (simp; done) | (simp; omega) | omega))
          have hB := hB'
          clear hB'
          have l0 : w.heap.size < w1.heap.size := by omega
          have l0a : w.heap.size ≤ w1.heap.size := by omega
          have l0b : w.heap.size ≤ w1.heap.size + 1 := by omega
          have l1 : wr.heap.size < w1.heap.size := by omega
          have l1a : wr.heap.size ≤ w1.heap.size := by omega
          have l1b : wr.heap.size ≤ w1.heap.size + 1 := by omega
          have k0 : w1.cell? ⟨w.heap.size, 0, none⟩ = some (.int .i64 0) := (hb.cell (by first | (simp; done) | (simp; omega) | omega)).trans (by first | (go_keep; done) | (go_simp; done))
          have k1 : w1.cell? ⟨w.heap.size, 1, none⟩ = some (.int .i64 0) := (hb.cell (by first | (simp; done) | (simp; omega) | omega)).trans (by first | (go_keep; done) | (go_simp; done))
          have k2 : w1.cell? ⟨wr.heap.size, 0, none⟩ = some (.int .i64 px) := (hb.cell (by first | (simp; done) | (simp; omega) | omega)).trans (by first | (go_keep; done) | (go_simp; done))
          have k3 : w1.cell? ⟨wr.heap.size, 1, none⟩ = some (.int .i64 py) := (hb.cell (by first | (simp; done) | (simp; omega) | omega)).trans (by first | (go_keep; done) | (go_simp; done))
          have f0 : w1.frozen? ⟨w.heap.size, 0, none⟩ = false := (hb.frozen (by first | (simp; done) | (simp; omega) | omega)).trans (by first | (go_keep; done) | (go_simp; done))
          have f1 : w1.frozen? ⟨w.heap.size, 1, none⟩ = false := (hb.frozen (by first | (simp; done) | (simp; omega) | omega)).trans (by first | (go_keep; done) | (go_simp; done))
          clear hb
          rw [HST.out]
          have hw : wrap64 ((q : Int) * ((j : Int) + 1)) = ((q * (j + 1) : Nat) : Int) := by
            have h1 : q * (j + 1) ≤ 4 * 65 := Nat.mul_le_mul (by omega) (by omega)
            have h2 : (q : Int) * ((j : Int) + 1) = ((q * (j + 1) : Nat) : Int) := by rw [Int.natCast_mul]; rfl
            rw [h2]; unfold wrap64; omega
          have HW := Lib.hid hw
          clear hw
          obtain ⟨p1, p2, hsm, hp1, hp2⟩ := FZ.W.csum ha.out hb'.out (w_ofR tx ty) (w_ofI tx ty) (by rw [cx_of' HTS.out]; omega) (by rw [cy_of' HTS.out]; omega)
          rw [cx_of' HTS.out, ← HPX.out] at hp1
          rw [cy_of' HTS.out, ← HPY.out] at hp2
          have hsum := fun w : World => run_complex_sum (P := Try.prog) w .add (.inl rfl) 32 .f64 _ _ _ _ _ _ hsm
          have HP1 := Lib.hid hp1
          have HP2 := Lib.hid hp2
          have HOK2 : Hid (okN l (j + 1) = true) := by show _ = true; rw [HOK.out, hok.out, HST.out]; rfl
          clear hp1 hp2 hsm ha hb' HOK HOF HPX HPY HTS
          go_wp2_with fail
          rw [HW.out]
          go_wp2_with fail
          refine (quarter_any _ _ _ _).mono ?_
          rintro e w2 ⟨rfl, hb⟩
          have hz := hb.size
          try simp at hz
          have hB' : Below w.heap.size w w2 := Below.trans (by repeat (first | with_reducible exact hB | with_reducible exact Below.refl _ _ | with_reducible apply Below.drew | with_reducible apply below_drewN | with_reducible refine Below.alloc ?_ (by first | (simp; done) | (simp; omega) | omega) _ | with_reducible refine Below.setCell ?_ (by first | (simp; done) | (simp; omega) | omega) _)) (hb.mono (by first | (simp; done) | (simp; omega) | omega))
          have hB := hB'
          clear hB'
          have l0 : w.heap.size < w2.heap.size := by omega
          have l0a : w.heap.size ≤ w2.heap.size := by omega
          have l0b : w.heap.size ≤ w2.heap.size + 1 := by omega
          have k0 : w2.cell? ⟨w.heap.size, 0, none⟩ = some (.int .i64 0) := (hb.cell (by first | (simp; done) | (simp; omega) | omega)).trans (by first | (go_keep; done) | (go_simp; done))
          have k1 : w2.cell? ⟨w.heap.size, 1, none⟩ = some (.int .i64 0) := (hb.cell (by first | (simp; done) | (simp; omega) | omega)).trans (by first | (go_keep; done) | (go_simp; done))
          have f0 : w2.frozen? ⟨w.heap.size, 0, none⟩ = false := (hb.frozen (by first | (simp; done) | (simp; omega) | omega)).trans (by first | (go_keep; done) | (go_simp; done))
          have f1 : w2.frozen? ⟨w.heap.size, 1, none⟩ = false := (hb.frozen (by first | (simp; done) | (simp; omega) | omega)).trans (by first | (go_keep; done) | (go_simp; done))
          clear hb
          rw [HTX.out, HTY.out]
          clear HTX HTY HW
          go_wp2_with fail
          refine (of_any _ _ _).mono ?_
          rintro e w3 ⟨rfl, hb⟩
          have hz := hb.size
          try simp at hz
          have hB' : Below w.heap.size w w3 := Below.trans (by repeat (first | with_reducible exact hB | with_reducible exact Below.refl _ _ | with_reducible apply Below.drew | with_reducible apply below_drewN | with_reducible refine Below.alloc ?_ (by first | (simp; done) | (simp; omega) | omega) _ | with_reducible refine Below.setCell ?_ (by first | (simp; done) | (simp; omega) | omega) _)) (hb.mono (by first | (simp; done) | (simp; omega) | omega))
          have hB := hB'
          clear hB'
          have l0 : w.heap.size < w3.heap.size := by omega
          have l0a : w.heap.size ≤ w3.heap.size := by omega
          have l0b : w.heap.size ≤ w3.heap.size + 1 := by omega
          have k0 : w3.cell? ⟨w.heap.size, 0, none⟩ = some (.int .i64 0) := (hb.cell (by first | (simp; done) | (simp; omega) | omega)).trans (by first | (go_keep; done) | (go_simp; done))
          have k1 : w3.cell? ⟨w.heap.size, 1, none⟩ = some (.int .i64 0) := (hb.cell (by first | (simp; done) | (simp; omega) | omega)).trans (by first | (go_keep; done) | (go_simp; done))
          have f0 : w3.frozen? ⟨w.heap.size, 0, none⟩ = false := (hb.frozen (by first | (simp; done) | (simp; omega) | omega)).trans (by first | (go_keep; done) | (go_simp; done))
          have f1 : w3.frozen? ⟨w.heap.size, 1, none⟩ = false := (hb.frozen (by first | (simp; done) | (simp; omega) | omega)).trans (by first | (go_keep; done) | (go_simp; done))
          clear hb
          go_wp2_with fail
          go_roundw
          case rel => exact ⟨j + 1, p1, p2, by omega, by go_num, rfl, HP1, HP2, HOK2, hB, by omega, k0, k1, f0, f1⟩
          case measure => simp [intOf]; omega
      · obtain rfl : j = m := by omega
        obtain ⟨t1, t2, t3⟩ := to_w ha.out hb'.out (by omega) (by omega)
        have HTo : Hid (∀ w : World, Calls Try.prog 13 #[.complex .f64 a b] w fun e w' => e = .returned (.tuple #[.agg #[.int .i64 (cx (psX q l j) (psY q l j)), .int .i64 (cy (psX q l j) (psY q l j))], .bool (stp (psX q l j) (psY q l j))]) ∧ Below w.heap.size w w') := by
          intro w
          have := to_any a b w
          rwa [t1, t2, t3] at this
        have EX : Hid (PX q = cx (psX q l j) (psY q l j)) := by show _ = _; rw [HX.out, hok.out, if_pos rfl]
        have EY : Hid (PY q = cy (psX q l j) (psY q l j)) := by show _ = _; rw [HY.out, hok.out, if_pos rfl]
        have EB : Hid (PB q = stp (psX q l j) (psY q l j)) := by show _ = _; rw [HB.out, hok.out, Bool.true_and]
        clear HX HY HB hok ha hb' bX bY t1 t2 t3
        generalize cx (psX q l j) (psY q l j) = rX at *
        generalize cy (psX q l j) (psY q l j) = rY at *
        generalize stp (psX q l j) (psY q l j) = rB at *
        go_wp2_with fail
        refine (HTo.out _).mono ?_
        rintro e w1 ⟨rfl, hb⟩
        have hz := hb.size
        try simp at hz
        have hB' : Below w.heap.size w w1 := Below.trans (by repeat (first | with_reducible exact hB | with_reducible exact Below.refl _ _ | with_reducible apply Below.drew | with_reducible apply below_drewN | with_reducible refine Below.alloc ?_ (by first | (simp; done) | (simp; omega) | omega) _ | with_reducible refine Below.setCell ?_ (by first | (simp; done) | (simp; omega) | omega) _)) (hb.mono (by first | (simp; done) | (simp; omega) | omega))
        have hB := hB'
        clear hB'
        have l0 : w.heap.size < w1.heap.size := by omega
        have l0a : w.heap.size ≤ w1.heap.size := by omega
        have l0b : w.heap.size ≤ w1.heap.size + 1 := by omega
        have k0 : w1.cell? ⟨w.heap.size, 0, none⟩ = some (.int .i64 0) := (hb.cell (by first | (simp; done) | (simp; omega) | omega)).trans (by first | (go_keep; done) | (go_simp; done))
        have k1 : w1.cell? ⟨w.heap.size, 1, none⟩ = some (.int .i64 0) := (hb.cell (by first | (simp; done) | (simp; omega) | omega)).trans (by first | (go_keep; done) | (go_simp; done))
        have f0 : w1.frozen? ⟨w.heap.size, 0, none⟩ = false := (hb.frozen (by first | (simp; done) | (simp; omega) | omega)).trans (by first | (go_keep; done) | (go_simp; done))
        have f1 : w1.frozen? ⟨w.heap.size, 1, none⟩ = false := (hb.frozen (by first | (simp; done) | (simp; omega) | omega)).trans (by first | (go_keep; done) | (go_simp; done))
        clear hb
        go_wp2_with fail
        exact bodyPost_ret (v := .tuple #[.agg #[.int .i64 rX, .int .i64 rY], .bool rB]) (by simp [results, Try.results15, go_sem, k0, k1]) rfl ⟨by rw [EX.out, EY.out, EB.out], (by repeat (first | with_reducible exact hB | with_reducible exact Below.refl _ _ | with_reducible apply Below.drew | with_reducible apply below_drewN | with_reducible refine Below.alloc ?_ (by first | (simp; done) | (simp; omega) | omega) _ | with_reducible refine Below.setCell ?_ (by first | (simp; done) | (simp; omega) | omega) _))⟩
  · obtain rfl : m = 64 := by rw [HM.out]; omega
    have hmx : (max 64 0 : Int) = 64 := by decide
    go_enter Try.func15, Try.ntmps15
    go_wp2_with fail
    go_loopw [6, 7, 8, 15] (fun z _ _ i wr => ∃ j a b : Nat, j ≤ 64 ∧ i = .int .i64 j ∧ z = .complex .f64 a b ∧ Hid (FZ.W a (psX q l j)) ∧ Hid (FZ.W b (psY q l j)) ∧ Hid (okN l j = true) ∧ Below w.heap.size w wr ∧ w.heap.size < wr.heap.size ∧ wr.cell? ⟨w.heap.size, 0, none⟩ = some (.int .i64 0) ∧ wr.cell? ⟨w.heap.size, 1, none⟩ = some (.int .i64 0) ∧ wr.frozen? ⟨w.heap.size, 0, none⟩ = false ∧ wr.frozen? ⟨w.heap.size, 1, none⟩ = false) (fun _ _ _ i _ => 64 - (intOf i).toNat)
    case atStart => exact ⟨0, 0, 0, Nat.zero_le _, rfl, rfl, w_zero, w_zero, rfl, (by repeat (first | with_reducible exact hB | with_reducible exact Below.refl _ _ | with_reducible apply Below.drew | with_reducible apply below_drewN | with_reducible refine Below.alloc ?_ (by first | (simp; done) | (simp; omega) | omega) _ | with_reducible refine Below.setCell ?_ (by first | (simp; done) | (simp; omega) | omega) _)), by simp, by go_simp, by go_simp, by go_simp, by go_simp⟩
    case round =>
      obtain ⟨j, a, b, hj, rfl, rfl, ha, hb', hok, hB, hsz, o0, o1, g0, g1⟩ := hrel
      have bX := psX_b q l j
      have bY := psY_b q l j
      by_cases hlt : j < 64
      · have hseg : Seg wr w.heap.size A (l.length * 2) (pts l) := by rw [HL.out]; exact HS.out.below hB
        obtain ⟨x, rfl, hxb, c0, c1⟩ := pts_cells hseg j (by rw [HL.out]; omega)
        clear hseg
        have tb1 := tX_b q l j
        have tb2 := tY_b q l j
        have HTX : Hid (quarX (l.getD j (0, 0)).1 (l.getD j (0, 0)).2 ((q * (j + 1) : Nat) : Int) = tX q l j) := rfl
        have HTY : Hid (quarY (l.getD j (0, 0)).1 (l.getD j (0, 0)).2 ((q * (j + 1) : Nat) : Int) = tY q l j) := rfl
        have HTS : Hid (stp (tX q l j) (tY q l j) = true) := tstp q l j
        have HPX : Hid (psX q l (j + 1) = psX q l j + tX q l j) := rfl
        have HPY : Hid (psY q l (j + 1) = psY q l j + tY q l j) := rfl
        have HOK : Hid (okN l (j + 1) = (okN l j && stp (l.getD j (0, 0)).1 (l.getD j (0, 0)).2)) := rfl
        have HOF : Hid (stp (l.getD j (0, 0)).1 (l.getD j (0, 0)).2 = false → okN l 64 = false) := fun h => okN_false hlt h
        generalize (l.getD j (0, 0)).1 = px at *
        generalize (l.getD j (0, 0)).2 = py at *
        generalize psX q l j = sX at *
        generalize psY q l j = sY at *
        generalize tX q l j = tx at *
        generalize tY q l j = ty at *
        cases hst : stp px py
        · have HST := Lib.hid hst
          clear hst
          go_wp2_with fail
          refine (may_any _ _ _).mono ?_
          rintro e w1 ⟨rfl, hb⟩
          have hz := hb.size
          try simp at hz
          have hB' : Below w.heap.size w w1 := Below.trans (by repeat (first | with_reducible exact hB | with_reducible exact Below.refl _ _ | with_reducible apply Below.drew | with_reducible apply below_drewN | with_reducible refine Below.alloc ?_ (by first | (simp; done) | (simp; omega) | omega) _ | with_reducible refine Below.setCell ?_ (by first | (simp; done) | (simp; omega) | omega) _)) (hb.mono (by first | (simp; done) | (simp; omega) | omega))
          have hB := hB'
          clear hB'
          have l0 : w.heap.size < w1.heap.size := by omega
          have l0a : w.heap.size ≤ w1.heap.size := by omega
          have l0b : w.heap.size ≤ w1.heap.size + 1 := by omega
          have k0 : w1.cell? ⟨w.heap.size, 0, none⟩ = some (.int .i64 0) := (hb.cell (by first | (simp; done) | (simp; omega) | omega)).trans (by first | (go_keep; done) | (go_simp; done))
          have k1 : w1.cell? ⟨w.heap.size, 1, none⟩ = some (.int .i64 0) := (hb.cell (by first | (simp; done) | (simp; omega) | omega)).trans (by first | (go_keep; done) | (go_simp; done))
          have f0 : w1.frozen? ⟨w.heap.size, 0, none⟩ = false := (hb.frozen (by first | (simp; done) | (simp; omega) | omega)).trans (by first | (go_keep; done) | (go_simp; done))
          have f1 : w1.frozen? ⟨w.heap.size, 1, none⟩ = false := (hb.frozen (by first | (simp; done) | (simp; omega) | omega)).trans (by first | (go_keep; done) | (go_simp; done))
          clear hb
          rw [HST.out]
          go_wp2_with fail
          have e0 : okN l 64 = false := HOF.out HST.out
          refine bodyPost_ret (v := .tuple #[.agg #[.int .i64 0, .int .i64 0], .bool false]) (by simp [results, Try.results15, go_sem, k0, k1]) rfl ⟨?_, (by repeat (first | with_reducible exact hB | with_reducible exact Below.refl _ _ | with_reducible apply Below.drew | with_reducible apply below_drewN | with_reducible refine Below.alloc ?_ (by first | (simp; done) | (simp; omega) | omega) _ | with_reducible refine Below.setCell ?_ (by first | (simp; done) | (simp; omega) | omega) _))⟩
          rw [HX.out, HY.out, HB.out, e0]
          rfl
        · have HST := Lib.hid hst
          clear hst
          go_wp2_with fail
          refine (may_any _ _ _).mono ?_
          rintro e w1 ⟨rfl, hb⟩
          have hz := hb.size
          try simp at hz
          have hB' : Below w.heap.size w w1 := Below.trans (by repeat (first | with_reducible exact hB | with_reducible exact Below.refl _ _ | with_reducible apply Below.drew | with_reducible apply below_drewN | with_reducible refine Below.alloc ?_ (by first | (simp; done) | (simp; omega) | omega) _ | with_reducible refine Below.setCell ?_ (by first | (simp; done) | (simp; omega) | omega) _)) (hb.mono (by first | (simp; done) | (simp; omega) | omega))
          have hB := hB'
          clear hB'
          have l0 : w.heap.size < w1.heap.size := by omega
          have l0a : w.heap.size ≤ w1.heap.size := by omega
          have l0b : w.heap.size ≤ w1.heap.size + 1 := by omega
          have l1 : wr.heap.size < w1.heap.size := by omega
          have l1a : wr.heap.size ≤ w1.heap.size := by omega
          have l1b : wr.heap.size ≤ w1.heap.size + 1 := by omega
          have k0 : w1.cell? ⟨w.heap.size, 0, none⟩ = some (.int .i64 0) := (hb.cell (by first | (simp; done) | (simp; omega) | omega)).trans (by first | (go_keep; done) | (go_simp; done))
          have k1 : w1.cell? ⟨w.heap.size, 1, none⟩ = some (.int .i64 0) := (hb.cell (by first | (simp; done) | (simp; omega) | omega)).trans (by first | (go_keep; done) | (go_simp; done))
          have k2 : w1.cell? ⟨wr.heap.size, 0, none⟩ = some (.int .i64 px) := (hb.cell (by first | (simp; done) | (simp; omega) | omega)).trans (by first | (go_keep; done) | (go_simp; done))
          have k3 : w1.cell? ⟨wr.heap.size, 1, none⟩ = some (.int .i64 py) := (hb.cell (by first | (simp; done) | (simp; omega) | omega)).trans (by first | (go_keep; done) | (go_simp; done))
          have f0 : w1.frozen? ⟨w.heap.size, 0, none⟩ = false := (hb.frozen (by first | (simp; done) | (simp; omega) | omega)).trans (by first | (go_keep; done) | (go_simp; done))
          have f1 : w1.frozen? ⟨w.heap.size, 1, none⟩ = false := (hb.frozen (by first | (simp; done) | (simp; omega) | omega)).trans (by first | (go_keep; done) | (go_simp; done))
          clear hb
          rw [HST.out]
          have hw : wrap64 ((q : Int) * ((j : Int) + 1)) = ((q * (j + 1) : Nat) : Int) := by
            have h1 : q * (j + 1) ≤ 4 * 65 := Nat.mul_le_mul (by omega) (by omega)
            have h2 : (q : Int) * ((j : Int) + 1) = ((q * (j + 1) : Nat) : Int) := by rw [Int.natCast_mul]; rfl
            rw [h2]; unfold wrap64; omega
          have HW := Lib.hid hw
          clear hw
          obtain ⟨p1, p2, hsm, hp1, hp2⟩ := FZ.W.csum ha.out hb'.out (w_ofR tx ty) (w_ofI tx ty) (by rw [cx_of' HTS.out]; omega) (by rw [cy_of' HTS.out]; omega)
          rw [cx_of' HTS.out, ← HPX.out] at hp1
          rw [cy_of' HTS.out, ← HPY.out] at hp2
          have hsum := fun w : World => run_complex_sum (P := Try.prog) w .add (.inl rfl) 32 .f64 _ _ _ _ _ _ hsm
          have HP1 := Lib.hid hp1
          have HP2 := Lib.hid hp2
          have HOK2 : Hid (okN l (j + 1) = true) := by show _ = true; rw [HOK.out, hok.out, HST.out]; rfl
          clear hp1 hp2 hsm ha hb' HOK HOF HPX HPY HTS
          go_wp2_with fail
          rw [HW.out]
          go_wp2_with fail
          refine (quarter_any _ _ _ _).mono ?_
          rintro e w2 ⟨rfl, hb⟩
          have hz := hb.size
          try simp at hz
          have hB' : Below w.heap.size w w2 := Below.trans (by repeat (first | with_reducible exact hB | with_reducible exact Below.refl _ _ | with_reducible apply Below.drew | with_reducible apply below_drewN | with_reducible refine Below.alloc ?_ (by first | (simp; done) | (simp; omega) | omega) _ | with_reducible refine Below.setCell ?_ (by first | (simp; done) | (simp; omega) | omega) _)) (hb.mono (by first | (simp; done) | (simp; omega) | omega))
          have hB := hB'
          clear hB'
          have l0 : w.heap.size < w2.heap.size := by omega
          have l0a : w.heap.size ≤ w2.heap.size := by omega
          have l0b : w.heap.size ≤ w2.heap.size + 1 := by omega
          have k0 : w2.cell? ⟨w.heap.size, 0, none⟩ = some (.int .i64 0) := (hb.cell (by first | (simp; done) | (simp; omega) | omega)).trans (by first | (go_keep; done) | (go_simp; done))
          have k1 : w2.cell? ⟨w.heap.size, 1, none⟩ = some (.int .i64 0) := (hb.cell (by first | (simp; done) | (simp; omega) | omega)).trans (by first | (go_keep; done) | (go_simp; done))
          have f0 : w2.frozen? ⟨w.heap.size, 0, none⟩ = false := (hb.frozen (by first | (simp; done) | (simp; omega) | omega)).trans (by first | (go_keep; done) | (go_simp; done))
          have f1 : w2.frozen? ⟨w.heap.size, 1, none⟩ = false := (hb.frozen (by first | (simp; done) | (simp; omega) | omega)).trans (by first | (go_keep; done) | (go_simp; done))
          clear hb
          rw [HTX.out, HTY.out]
          clear HTX HTY HW
          go_wp2_with fail
          refine (of_any _ _ _).mono ?_
          rintro e w3 ⟨rfl, hb⟩
          have hz := hb.size
          try simp at hz
          have hB' : Below w.heap.size w w3 := Below.trans (by repeat (first | with_reducible exact hB | with_reducible exact Below.refl _ _ | with_reducible apply Below.drew | with_reducible apply below_drewN | with_reducible refine Below.alloc ?_ (by first | (simp; done) | (simp; omega) | omega) _ | with_reducible refine Below.setCell ?_ (by first | (simp; done) | (simp; omega) | omega) _)) (hb.mono (by first | (simp; done) | (simp; omega) | omega))
          have hB := hB'
          clear hB'
          have l0 : w.heap.size < w3.heap.size := by omega
          have l0a : w.heap.size ≤ w3.heap.size := by omega
          have l0b : w.heap.size ≤ w3.heap.size + 1 := by omega
          have k0 : w3.cell? ⟨w.heap.size, 0, none⟩ = some (.int .i64 0) := (hb.cell (by first | (simp; done) | (simp; omega) | omega)).trans (by first | (go_keep; done) | (go_simp; done))
          have k1 : w3.cell? ⟨w.heap.size, 1, none⟩ = some (.int .i64 0) := (hb.cell (by first | (simp; done) | (simp; omega) | omega)).trans (by first | (go_keep; done) | (go_simp; done))
          have f0 : w3.frozen? ⟨w.heap.size, 0, none⟩ = false := (hb.frozen (by first | (simp; done) | (simp; omega) | omega)).trans (by first | (go_keep; done) | (go_simp; done))
          have f1 : w3.frozen? ⟨w.heap.size, 1, none⟩ = false := (hb.frozen (by first | (simp; done) | (simp; omega) | omega)).trans (by first | (go_keep; done) | (go_simp; done))
          clear hb
          go_wp2_with fail
          go_roundw
          case rel => exact ⟨j + 1, p1, p2, by omega, by go_num, rfl, HP1, HP2, HOK2, hB, by omega, k0, k1, f0, f1⟩
          case measure => simp [intOf]; omega
      · obtain rfl : j = 64 := by omega
        obtain ⟨t1, t2, t3⟩ := to_w ha.out hb'.out (by omega) (by omega)
        have HTo : Hid (∀ w : World, Calls Try.prog 13 #[.complex .f64 a b] w fun e w' => e = .returned (.tuple #[.agg #[.int .i64 (cx (psX q l 64) (psY q l 64)), .int .i64 (cy (psX q l 64) (psY q l 64))], .bool (stp (psX q l 64) (psY q l 64))]) ∧ Below w.heap.size w w') := by
          intro w
          have := to_any a b w
          rwa [t1, t2, t3] at this
        have EX : Hid (PX q = cx (psX q l 64) (psY q l 64)) := by show _ = _; rw [HX.out, hok.out, if_pos rfl]
        have EY : Hid (PY q = cy (psX q l 64) (psY q l 64)) := by show _ = _; rw [HY.out, hok.out, if_pos rfl]
        have EB : Hid (PB q = stp (psX q l 64) (psY q l 64)) := by show _ = _; rw [HB.out, hok.out, Bool.true_and]
        clear HX HY HB hok ha hb' bX bY t1 t2 t3
        generalize cx (psX q l 64) (psY q l 64) = rX at *
        generalize cy (psX q l 64) (psY q l 64) = rY at *
        generalize stp (psX q l 64) (psY q l 64) = rB at *
        go_wp2_with fail
        refine (HTo.out _).mono ?_
        rintro e w1 ⟨rfl, hb⟩
        have hz := hb.size
        try simp at hz
        have hB' : Below w.heap.size w w1 := Below.trans (by repeat (first | with_reducible exact hB | with_reducible exact Below.refl _ _ | with_reducible apply Below.drew | with_reducible apply below_drewN | with_reducible refine Below.alloc ?_ (by first | (simp; done) | (simp; omega) | omega) _ | with_reducible refine Below.setCell ?_ (by first | (simp; done) | (simp; omega) | omega) _)) (hb.mono (by first | (simp; done) | (simp; omega) | omega))
        have hB := hB'
        clear hB'
        have l0 : w.heap.size < w1.heap.size := by omega
        have l0a : w.heap.size ≤ w1.heap.size := by omega
        have l0b : w.heap.size ≤ w1.heap.size + 1 := by omega
        have k0 : w1.cell? ⟨w.heap.size, 0, none⟩ = some (.int .i64 0) := (hb.cell (by first | (simp; done) | (simp; omega) | omega)).trans (by first | (go_keep; done) | (go_simp; done))
        have k1 : w1.cell? ⟨w.heap.size, 1, none⟩ = some (.int .i64 0) := (hb.cell (by first | (simp; done) | (simp; omega) | omega)).trans (by first | (go_keep; done) | (go_simp; done))
        have f0 : w1.frozen? ⟨w.heap.size, 0, none⟩ = false := (hb.frozen (by first | (simp; done) | (simp; omega) | omega)).trans (by first | (go_keep; done) | (go_simp; done))
        have f1 : w1.frozen? ⟨w.heap.size, 1, none⟩ = false := (hb.frozen (by first | (simp; done) | (simp; omega) | omega)).trans (by first | (go_keep; done) | (go_simp; done))
        clear hb
        go_wp2_with fail
        exact bodyPost_ret (v := .tuple #[.agg #[.int .i64 rX, .int .i64 rY], .bool rB]) (by simp [results, Try.results15, go_sem, k0, k1]) rfl ⟨by rw [EX.out, EY.out, EB.out], (by repeat (first | with_reducible exact hB | with_reducible exact Below.refl _ _ | with_reducible apply Below.drew | with_reducible apply below_drewN | with_reducible refine Below.alloc ?_ (by first | (simp; done) | (simp; omega) | omega) _ | with_reducible refine Below.setCell ?_ (by first | (simp; done) | (simp; omega) | omega) _))⟩

theorem Try.bytesPoint : Try.prog.bytesOf 23 = 16 := by kernel_rfl

/-- A slice of points that came in. -/
theorem open_pts {H : Type} {enc : TypeId × Value → H} {w : World} {v : Value} {d : DataW H} {p : List MemPlace} (h : DataW.Trod enc Try.prog w 0 (fun _ => true) true 35 v d p) (hsh : ∃ A len cap, v = .slice A len cap) :
    ∃ (A : Option Addr) (cap : Nat) (l : List (Int × Int)), v = .slice A l.length cap ∧ l.length ≤ cap ∧ ((l = [] ∧ d = .nil) ∨ ∃ el sp, d = .slice el sp ∧ el.length = l.length) ∧ Seg w w.heap.size A (l.length * 2) (pts l) := by
  obtain ⟨A, len, cap, f, rfl, hl, hm, hd, hs, hrow⟩ := open_rows (C := 2) Try.underlying35 (by kernel_rfl) h hsh
  have key : ∀ i, i < len → f (i * 2) = .int .i64 (intOf (f (i * 2))) ∧ f (i * 2 + 1) = .int .i64 (intOf (f (i * 2 + 1))) := by
    intro i hi
    obtain ⟨x, n, cs, ht, hcl, hc⟩ := hrow i hi
    have i64 := @Try.underlying2
    exact ⟨(leaf_int (d := 5) (l := 2) (by kernel_rfl) i64 (hc 0 (by omega)) ht).1, (leaf_int (d := 5) (l := 2) (by kernel_rfl) i64 (hc 1 (by omega)) ht).1⟩
  refine ⟨A, cap, (List.range len).map (fun i => (intOf (f (i * 2)), intOf (f (i * 2 + 1)))), by simp, by simpa using hl, ?_, ?_⟩
  · rcases hd with ⟨rfl, rfl⟩ | ⟨el, sp, rfl, he⟩
    · exact .inl ⟨rfl, rfl⟩
    · exact .inr ⟨el, sp, rfl, by simpa using he⟩
  · simp only [List.length_map, List.length_range]
    refine hs.same fun j hj => ?_
    have h1 : j / 2 < len := by omega
    obtain ⟨k0, k1⟩ := key (j / 2) h1
    unfold pts
    by_cases h2 : j % 2 = 0
    · rw [if_pos h2]
      have e : j / 2 * 2 = j := by omega
      rw [e] at k0
      rw [k0]
      simp [List.getD_eq_getElem?_getD, h1, e]
    · rw [if_neg h2]
      have e : j / 2 * 2 + 1 = j := by omega
      rw [e] at k1
      rw [k1]
      simp [List.getD_eq_getElem?_getD, h1, e]
end Go.Proofs.Ytkjeebabcdnjkaa
