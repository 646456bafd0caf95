/-
  The statement TurnPath: for every input the law returns true.
-/
import Derived.Test.YtkjeebabcdnjkaaTurnPathF
import Derived.Deep.QuietTactic
import Derived.BigQuiet
set_option linter.unusedVariables false
namespace Go.Proofs.Ytkjeebabcdnjkaa.turnPath
open Go.ChangeShapes Go.WideShapes Go.ChangeAt Go.RowKit

theorem q4_four (z : Int) : q4 (4 * z) = 0 := by unfold q4; omega
theorem quar0 (x y : Int) (n : Nat) : quarX x y ((0 * n : Nat) : Int) = cx x y ∧ quarY x y ((0 * n : Nat) : Int) = cy x y := by
  rw [Nat.zero_mul]; exact ⟨rfl, rfl⟩
theorem step0 (l : List (Int × Int)) (i : Nat) (h : stp (l.getD i (0, 0)).1 (l.getD i (0, 0)).2 = true) : psX 0 l (i + 1) = psX 0 l i + (l.getD i (0, 0)).1 ∧ psY 0 l (i + 1) = psY 0 l i + (l.getD i (0, 0)).2 := by
  constructor
  · show psX 0 l i + tX 0 l i = _
    unfold tX; rw [(quar0 _ _ _).1, cx_of' h]
  · show psY 0 l i + tY 0 l i = _
    unfold tY; rw [(quar0 _ _ _).2, cy_of' h]

/-- Four alike with a quarter between. -/
theorem four (x y : Int) : pathX [(x, y), (x, y), (x, y), (x, y)] 1 = 0 ∧ pathY [(x, y), (x, y), (x, y), (x, y)] 1 = 0 ∧ pathB [(x, y), (x, y), (x, y), (x, y)] 1 = stp x y := by
  have hm : most [(x, y), (x, y), (x, y), (x, y)] = 4 := rfl
  have hX : psX 1 [(x, y), (x, y), (x, y), (x, y)] 4 = 0 := by
    simp only [psX, tX, quarX, List.getD_eq_getElem?_getD]
    simp
    rw [show q4 1 = 1 from rfl, show q4 2 = 2 from rfl, show q4 3 = 3 from rfl, show q4 4 = 0 from rfl]
    unfold rotX; simp; omega
  have hY : psY 1 [(x, y), (x, y), (x, y), (x, y)] 4 = 0 := by
    simp only [psY, tY, quarY, List.getD_eq_getElem?_getD]
    simp
    rw [show q4 1 = 1 from rfl, show q4 2 = 2 from rfl, show q4 3 = 3 from rfl, show q4 4 = 0 from rfl]
    unfold rotY; simp; omega
  have hok : okN [(x, y), (x, y), (x, y), (x, y)] 4 = stp x y := by
    simp [okN]
  unfold pathX pathY pathB
  rw [hm, hX, hY, hok]
  refine ⟨?_, ?_, ?_⟩
  · split <;> rfl
  · split <;> rfl
  · rw [show stp 0 0 = true from by decide, Bool.and_true]

/-- What the first path is, where the law's own sum is told. -/
theorem straight (l : List (Int × Int)) (x y : Int) (may : Bool) (h1 : may = okN l (most l)) (h2 : may = true → x = psX 0 l (most l) ∧ y = psY 0 l (most l)) :
    pathB l 0 = (may && stp x y) ∧ (pathB l 0 = true → pathX l 0 = x ∧ pathY l 0 = y) := by
  subst h1
  unfold pathB pathX pathY
  cases h : okN l (most l)
  · simp
  · obtain ⟨e1, e2⟩ := h2 h
    rw [← e1, ← e2]
    simp only [Bool.true_and, if_true]
    exact ⟨trivial, fun hs => ⟨cx_of' hs, cy_of' hs⟩⟩

set_option maxHeartbeats 3200000 in
theorem walk (A : Option Addr) (cap : Nat) (l : List (Int × Int)) (px py k : Int) (w : World) (hm : l.length ≤ 1152921504606846976) (hcap : l.length ≤ cap) (hs : Seg w w.heap.size A (l.length * 2) (pts l)) :
    Calls Try.prog 5 #[.slice A l.length cap, .agg #[.int .i64 px, .int .i64 py], .int .i64 k] w fun e w' => e = .returned (.bool true) ∧ Below w.heap.size w w' := by
  have hB : Below w.heap.size w w := Below.refl _ _
  have hk : -999 ≤ k.tmod 1000 ∧ k.tmod 1000 ≤ 999 := by
    rcases Int.le_total 0 k with h | h
    · rw [Int.tmod_eq_emod_of_nonneg h]; omega
    · have : k.tmod 1000 = -((-k).tmod 1000) := by rw [Int.neg_tmod]; omega
      rw [this, Int.tmod_eq_emod_of_nonneg (by omega)]; omega
  have HP : Hid (∀ w' : World, Below w.heap.size w w' → ∀ z : Int, Calls Try.prog 15 #[.slice A l.length cap, .int .i64 (4 * z)] w' fun e w'' => e = .returned (.tuple #[.agg #[.int .i64 (pathX l 0), .int .i64 (pathY l 0)], .bool (pathB l 0)]) ∧ Below w'.heap.size w' w'') := by
    intro w' hb z
    have := path_any A cap l (4 * z) w' hm hcap ((hs.below hb).more hb.size)
    rwa [q4_four] at this
  have HS := Lib.hid hs
  have HST := Lib.hid (straight l)
  have HP2 : Hid (∀ (W : World) (b : Nat) (hb : b = W.heap.size), Calls Try.prog 15 #[.slice (some ⟨b, 0, none⟩) 4 4, .int .i64 1] (W.alloc (.cells #[.int .i64 px, .int .i64 py, .int .i64 px, .int .i64 py, .int .i64 px, .int .i64 py, .int .i64 px, .int .i64 py] 23)) fun e w'' => e = .returned (.tuple #[.agg #[.int .i64 0, .int .i64 0], .bool (stp px py)]) ∧ Below (W.alloc (.cells #[.int .i64 px, .int .i64 py, .int .i64 px, .int .i64 py, .int .i64 px, .int .i64 py, .int .i64 px, .int .i64 py] 23)).heap.size (W.alloc (.cells #[.int .i64 px, .int .i64 py, .int .i64 px, .int .i64 py, .int .i64 px, .int .i64 py, .int .i64 px, .int .i64 py] 23)) w'') := by
    intro W b hb
    have hseg := Seg.new W 23 #[.int .i64 px, .int .i64 py, .int .i64 px, .int .i64 py, .int .i64 px, .int .i64 py, .int .i64 px, .int .i64 py] b hb (pts [(px, py), (px, py), (px, py), (px, py)]) (fun j hj => by
      have hj8 : j < 8 := hj
      match j, hj8 with
      | 0, _ => rfl
      | 1, _ => rfl
      | 2, _ => rfl
      | 3, _ => rfl
      | 4, _ => rfl
      | 5, _ => rfl
      | 6, _ => rfl
      | 7, _ => rfl)
    have := path_any (some ⟨b, 0, none⟩) 4 [(px, py), (px, py), (px, py), (px, py)] 1 _ (by simp) (by simp) (hseg.more (by simp))
    rw [show q4 1 = 1 from rfl, (four px py).1, (four px py).2.1, (four px py).2.2] at this
    exact this
  clear hs
  have hmost : Hid (most l = min l.length 64) := rfl
  generalize pathX l 0 = PX at *
  generalize pathY l 0 = PY at *
  generalize pathB l 0 = PB at *
  generalize hL : l.length = len at *
  have HL := Lib.hid hL
  clear hL
  go_enter Try.func5, Try.ntmps5
  go_wp2_with fail
  go_loopw [7, 8, 9, 10, 11, 19] (fun vx vy vm _ _ vi wr => ∃ j : Nat, ∃ x y : Int, ∃ may : Bool, j ≤ len ∧ vi = .int .i64 j ∧ vx = .int .i64 x ∧ vy = .int .i64 y ∧ vm = .bool may ∧ -300000000 ≤ x ∧ x ≤ 300000000 ∧ -300000000 ≤ y ∧ y ≤ 300000000 ∧ Hid (may = okN l (min j 64) ∧ (may = true → x = psX 0 l (min j 64) ∧ y = psY 0 l (min j 64))) ∧ Below w.heap.size w wr ∧ w.heap.size < wr.heap.size ∧ wr.cell? ⟨w.heap.size, 0, none⟩ = some (.int .i64 px) ∧ wr.cell? ⟨w.heap.size, 1, none⟩ = some (.int .i64 py)) (fun _ _ _ _ _ i _ => len - (intOf i).toNat)
  case atStart => exact ⟨0, 0, 0, true, Nat.zero_le _, rfl, rfl, rfl, rfl, by omega, by omega, by omega, by omega, ⟨rfl, fun _ => ⟨rfl, rfl⟩⟩, (by repeat (first | with_reducible exact hB | with_reducible exact Below.refl _ _ | with_reducible apply Below.drew | with_reducible apply below_drewN | with_reducible refine Below.alloc ?_ (by first | (simp; done) | (simp; omega) | omega) _ | with_reducible refine Below.setCell ?_ (by first | (simp; done) | (simp; omega) | omega) _)), by simp, by go_simp, by go_simp⟩
  case round =>
    obtain ⟨j, x, y, may, hj, rfl, rfl, rfl, rfl, x0, x1, y0, y1, hrel, hB, hsz, o0, o1⟩ := hrel
    by_cases hlt : j < len
    · have hseg : Seg wr w.heap.size A (l.length * 2) (pts l) := by rw [HL.out]; exact HS.out.below hB
      obtain ⟨ad, rfl, hxb, c0, c1⟩ := pts_cells hseg j (by rw [HL.out]; omega)
      clear hseg
      by_cases h64 : j < 64
      · have hrel2 : may = okN l j ∧ (may = true → x = psX 0 l j ∧ y = psY 0 l j) := by
          have := hrel.out
          rwa [show min j 64 = j from by omega] at this
        have hxb2 : may = true → (-(4194304 * j : Int) ≤ x ∧ x ≤ 4194304 * j) ∧ -(4194304 * j : Int) ≤ y ∧ y ≤ 4194304 * j := by
          intro h
          obtain ⟨e1, e2⟩ := hrel2.2 h
          rw [e1, e2]
          exact ⟨psX_b 0 l j, psY_b 0 l j⟩
        have hst0 := step0 l j
        have hok1 : okN l (j + 1) = (okN l j && stp (l.getD j (0, 0)).1 (l.getD j (0, 0)).2) := rfl
        have HR := Lib.hid (And.intro hrel2 (And.intro hst0 hok1))
        have hmj : Hid (min (j + 1) 64 = j + 1) := by show _ = _; omega
        clear hrel hrel2 hst0 hok1
        generalize (l.getD j (0, 0)).1 = sx at *
        generalize (l.getD j (0, 0)).2 = sy at *
        cases may
        · clear hxb2
          go_wp2_with fail
          go_roundw
          case rel =>
            refine ⟨j + 1, x, y, false, by omega, by go_num, rfl, rfl, rfl, x0, x1, y0, y1, ⟨?_, fun h => by cases h⟩, (by repeat (first | with_reducible exact hB | with_reducible exact Below.refl _ _ | with_reducible apply Below.drew | with_reducible apply below_drewN | with_reducible refine Below.alloc ?_ (by first | (simp; done) | (simp; omega) | omega) _ | with_reducible refine Below.setCell ?_ (by first | (simp; done) | (simp; omega) | omega) _)), (by first | (simp; done) | (simp; omega) | omega), (by first | ((repeat (first | with_reducible assumption | with_reducible refine cell_drew_keep ?_ | with_reducible refine cell_alloc_keep ?_ | with_reducible refine cell_set_same ?_ | with_reducible refine cell_set_keep ?_ (by first | (simp only [ne_eq, Addr.mk.injEq, and_true]; omega) | (simp; done) | (simp; omega)))); done) | (go_simp; done)), (by first | ((repeat (first | with_reducible assumption | with_reducible refine cell_drew_keep ?_ | with_reducible refine cell_alloc_keep ?_ | with_reducible refine cell_set_same ?_ | with_reducible refine cell_set_keep ?_ (by first | (simp only [ne_eq, Addr.mk.injEq, and_true]; omega) | (simp; done) | (simp; omega)))); done) | (go_simp; done))⟩
            rw [hmj.out, HR.out.2.2, ← HR.out.1.1]; rfl
          case measure => simp [intOf]; omega
        · have hxb2 := hxb2 rfl
          cases hst : stp sx sy
          · have HST1 := Lib.hid hst
            clear hst
            go_wp2_with fail
            refine (maystep_any _ _ _).mono ?_
            rintro e w1 ⟨rfl, hb⟩
            have hz := hb.size
            try simp at hz
            have hB' : Below w.heap.size w w1 := Below.trans (by repeat (first | with_reducible exact hB | with_reducible exact Below.refl _ _ | with_reducible apply Below.drew | with_reducible apply below_drewN | with_reducible refine Below.alloc ?_ (by first | (simp; done) | (simp; omega) | omega) _ | with_reducible refine Below.setCell ?_ (by first | (simp; done) | (simp; omega) | omega) _)) (hb.mono (by first | (simp; done) | (simp; omega) | omega))
            have hB := hB'
            clear hB'
            have l0 : w.heap.size < w1.heap.size := by omega
            have l0a : w.heap.size ≤ w1.heap.size := by omega
            have l0b : w.heap.size ≤ w1.heap.size + 1 := by omega
            have k0 : w1.cell? ⟨w.heap.size, 0, none⟩ = some (.int .i64 px) := (hb.cell (by first | (simp; done) | (simp; omega) | omega)).trans (by first | (go_keep; done) | (go_simp; done))
            have k1 : w1.cell? ⟨w.heap.size, 1, none⟩ = some (.int .i64 py) := (hb.cell (by first | (simp; done) | (simp; omega) | omega)).trans (by first | (go_keep; done) | (go_simp; done))
            clear hb
            rw [HST1.out]
            go_wp2_with fail
            go_roundw
            case rel =>
              refine ⟨j + 1, x, y, false, by omega, by go_num, rfl, rfl, rfl, x0, x1, y0, y1, ⟨?_, fun h => by cases h⟩, hB, by omega, k0, k1⟩
              rw [hmj.out, HR.out.2.2, HST1.out, Bool.and_false]
            case measure => simp [intOf]; omega
          · have hs4 := stp_iff.1 hst
            have HST1 := Lib.hid hst
            clear hst
            go_wp2_with fail
            refine (maystep_any _ _ _).mono ?_
            rintro e w1 ⟨rfl, hb⟩
            have hz := hb.size
            try simp at hz
            have hB' : Below w.heap.size w w1 := Below.trans (by repeat (first | with_reducible exact hB | with_reducible exact Below.refl _ _ | with_reducible apply Below.drew | with_reducible apply below_drewN | with_reducible refine Below.alloc ?_ (by first | (simp; done) | (simp; omega) | omega) _ | with_reducible refine Below.setCell ?_ (by first | (simp; done) | (simp; omega) | omega) _)) (hb.mono (by first | (simp; done) | (simp; omega) | omega))
            have hB := hB'
            clear hB'
            have l0 : w.heap.size < w1.heap.size := by omega
            have l0a : w.heap.size ≤ w1.heap.size := by omega
            have l0b : w.heap.size ≤ w1.heap.size + 1 := by omega
            have l1 : wr.heap.size < w1.heap.size := by omega
            have l1a : wr.heap.size ≤ w1.heap.size := by omega
            have l1b : wr.heap.size ≤ w1.heap.size + 1 := by omega
            have k0 : w1.cell? ⟨w.heap.size, 0, none⟩ = some (.int .i64 px) := (hb.cell (by first | (simp; done) | (simp; omega) | omega)).trans (by first | (go_keep; done) | (go_simp; done))
            have k1 : w1.cell? ⟨w.heap.size, 1, none⟩ = some (.int .i64 py) := (hb.cell (by first | (simp; done) | (simp; omega) | omega)).trans (by first | (go_keep; done) | (go_simp; done))
            have k2 : w1.cell? ⟨wr.heap.size, 0, none⟩ = some (.int .i64 sx) := (hb.cell (by first | (simp; done) | (simp; omega) | omega)).trans (by first | (go_keep; done) | (go_simp; done))
            have k3 : w1.cell? ⟨wr.heap.size, 1, none⟩ = some (.int .i64 sy) := (hb.cell (by first | (simp; done) | (simp; omega) | omega)).trans (by first | (go_keep; done) | (go_simp; done))
            clear hb
            rw [HST1.out]
            go_wp2_with fail
            go_quiet (fail)
            go_wp2_with fail
            go_roundw
            case rel =>
              refine ⟨j + 1, x + sx, y + sy, true, by omega, by go_num, rfl, rfl, rfl, by omega, by omega, by omega, by omega, ⟨?_, fun _ => ?_⟩, below_drewN hB _, by simp; omega, k0, k1⟩
              · rw [hmj.out, HR.out.2.2, HST1.out, ← HR.out.1.1]; rfl
              · rw [hmj.out, (HR.out.2.1 HST1.out).1, (HR.out.2.1 HST1.out).2, ← (HR.out.1.2 (by simp)).1, ← (HR.out.1.2 (by simp)).2]; exact ⟨rfl, rfl⟩
            case measure => simp [intOf]; omega
      · have hmj : min (j + 1) 64 = min j 64 := by omega
        have HMJ := Lib.hid hmj
        clear hmj
        go_wp2_with fail
        go_roundw
        case rel => exact ⟨j + 1, x, y, may, by omega, by go_num, rfl, rfl, rfl, x0, x1, y0, y1, by rw [HMJ.out]; exact hrel, (by repeat (first | with_reducible exact hB | with_reducible exact Below.refl _ _ | with_reducible apply Below.drew | with_reducible apply below_drewN | with_reducible refine Below.alloc ?_ (by first | (simp; done) | (simp; omega) | omega) _ | with_reducible refine Below.setCell ?_ (by first | (simp; done) | (simp; omega) | omega) _)), (by first | (simp; done) | (simp; omega) | omega), (by first | ((repeat (first | with_reducible assumption | with_reducible refine cell_drew_keep ?_ | with_reducible refine cell_alloc_keep ?_ | with_reducible refine cell_set_same ?_ | with_reducible refine cell_set_keep ?_ (by first | (simp only [ne_eq, Addr.mk.injEq, and_true]; omega) | (simp; done) | (simp; omega)))); done) | (go_simp; done)), (by first | ((repeat (first | with_reducible assumption | with_reducible refine cell_drew_keep ?_ | with_reducible refine cell_alloc_keep ?_ | with_reducible refine cell_set_same ?_ | with_reducible refine cell_set_keep ?_ (by first | (simp only [ne_eq, Addr.mk.injEq, and_true]; omega) | (simp; done) | (simp; omega)))); done) | (go_simp; done))⟩
        case measure => simp [intOf]; omega
    · obtain rfl : j = len := by omega
      have hr : may = okN l (most l) ∧ (may = true → x = psX 0 l (most l) ∧ y = psY 0 l (most l)) := by rw [hmost.out]; exact hrel.out
      obtain ⟨e1, e2⟩ := HST.out x y may hr.1 hr.2
      have HE1 := Lib.hid e1
      have HE2 := Lib.hid e2
      clear hr e1 e2 hrel HST HS HL hmost
      go_wp2_with fail
      refine (HP.out _ (by repeat (first | with_reducible exact hB | with_reducible exact Below.refl _ _ | with_reducible apply Below.drew | with_reducible apply below_drewN | with_reducible refine Below.alloc ?_ (by first | (simp; done) | (simp; omega) | omega) _ | with_reducible refine Below.setCell ?_ (by first | (simp; done) | (simp; omega) | omega) _)) _).mono ?_
      rintro e w1 ⟨rfl, hb⟩
      have hz := hb.size
      try simp at hz
      have hB' : Below w.heap.size w w1 := Below.trans (by repeat (first | with_reducible exact hB | with_reducible exact Below.refl _ _ | with_reducible apply Below.drew | with_reducible apply below_drewN | with_reducible refine Below.alloc ?_ (by first | (simp; done) | (simp; omega) | omega) _ | with_reducible refine Below.setCell ?_ (by first | (simp; done) | (simp; omega) | omega) _)) (hb.mono (by first | (simp; done) | (simp; omega) | omega))
      have hB := hB'
      clear hB'
      have l0 : w.heap.size < w1.heap.size := by omega
      have l0a : w.heap.size ≤ w1.heap.size := by omega
      have l0b : w.heap.size ≤ w1.heap.size + 1 := by omega
      have l1 : wr.heap.size < w1.heap.size := by omega
      have l1a : wr.heap.size ≤ w1.heap.size := by omega
      have l1b : wr.heap.size ≤ w1.heap.size + 1 := by omega
      have k0 : w1.cell? ⟨w.heap.size, 0, none⟩ = some (.int .i64 px) := (hb.cell (by first | (simp; done) | (simp; omega) | omega)).trans (by first | (go_keep; done) | (go_simp; done))
      have k1 : w1.cell? ⟨w.heap.size, 1, none⟩ = some (.int .i64 py) := (hb.cell (by first | (simp; done) | (simp; omega) | omega)).trans (by first | (go_keep; done) | (go_simp; done))
      have k2 : w1.cell? ⟨wr.heap.size, 0, none⟩ = some (.int .i64 x) := (hb.cell (by first | (simp; done) | (simp; omega) | omega)).trans (by first | (go_keep; done) | (go_simp; done))
      have k3 : w1.cell? ⟨wr.heap.size, 1, none⟩ = some (.int .i64 y) := (hb.cell (by first | (simp; done) | (simp; omega) | omega)).trans (by first | (go_keep; done) | (go_simp; done))
      clear hb
      cases may
      · have hPB : PB = false := by rw [HE1.out]; rfl
        subst hPB
        clear HE1 HE2
        have q9 : (stp px py == stp px py) = true := by simp
        go_wp2_with fail
        refine (HP2.out _ _ (by simp)).mono ?_
        rintro e w3 ⟨rfl, hb⟩
        have hz := hb.size
        try simp at hz
        have hB' : Below w.heap.size w w3 := Below.trans (by repeat (first | with_reducible exact hB | with_reducible exact Below.refl _ _ | with_reducible apply Below.drew | with_reducible apply below_drewN | with_reducible refine Below.alloc ?_ (by first | (simp; done) | (simp; omega) | omega) _ | with_reducible refine Below.setCell ?_ (by first | (simp; done) | (simp; omega) | omega) _)) (hb.mono (by first | (simp; done) | (simp; omega) | omega))
        have hB := hB'
        clear hB'
        have l0 : w.heap.size < w3.heap.size := by omega
        have l0a : w.heap.size ≤ w3.heap.size := by omega
        have l0b : w.heap.size ≤ w3.heap.size + 1 := by omega
        have k0 : w3.cell? ⟨w.heap.size, 0, none⟩ = some (.int .i64 px) := (hb.cell (by first | (simp; done) | (simp; omega) | omega)).trans (by first | (go_keep; done) | (go_simp; done))
        have k1 : w3.cell? ⟨w.heap.size, 1, none⟩ = some (.int .i64 py) := (hb.cell (by first | (simp; done) | (simp; omega) | omega)).trans (by first | (go_keep; done) | (go_simp; done))
        clear hb
        go_wp2_with fail
        refine (maystep_any _ _ _).mono ?_
        rintro e w4 ⟨rfl, hb⟩
        have hz := hb.size
        try simp at hz
        have hB' : Below w.heap.size w w4 := Below.trans (by repeat (first | with_reducible exact hB | with_reducible exact Below.refl _ _ | with_reducible apply Below.drew | with_reducible apply below_drewN | with_reducible refine Below.alloc ?_ (by first | (simp; done) | (simp; omega) | omega) _ | with_reducible refine Below.setCell ?_ (by first | (simp; done) | (simp; omega) | omega) _)) (hb.mono (by first | (simp; done) | (simp; omega) | omega))
        have hB := hB'
        clear hB'
        have l0 : w3.heap.size < w4.heap.size := by omega
        have l0a : w3.heap.size ≤ w4.heap.size := by omega
        have l0b : w3.heap.size ≤ w4.heap.size + 1 := by omega
        have k0 : w4.cell? ⟨w3.heap.size, 0, none⟩ = some (.int .i64 0) := (hb.cell (by first | (simp; done) | (simp; omega) | omega)).trans (by first | (go_keep; done) | (go_simp; done))
        have k1 : w4.cell? ⟨w3.heap.size, 1, none⟩ = some (.int .i64 0) := (hb.cell (by first | (simp; done) | (simp; omega) | omega)).trans (by first | (go_keep; done) | (go_simp; done))
        clear hb
        go_wp2_with fail
        refine (awake_any _).mono ?_
        rintro e w5 ⟨rfl, hb⟩
        have hz := hb.size
        try simp at hz
        have hB' : Below w.heap.size w w5 := Below.trans (by repeat (first | with_reducible exact hB | with_reducible exact Below.refl _ _ | with_reducible apply Below.drew | with_reducible apply below_drewN | with_reducible refine Below.alloc ?_ (by first | (simp; done) | (simp; omega) | omega) _ | with_reducible refine Below.setCell ?_ (by first | (simp; done) | (simp; omega) | omega) _)) (hb.mono (by first | (simp; done) | (simp; omega) | omega))
        have hB := hB'
        clear hB'
        clear hb
        go_wp2_with fail
        go_ret
        exact ⟨rfl, (by repeat (first | with_reducible exact hB | with_reducible exact Below.refl _ _ | with_reducible apply Below.drew | with_reducible apply below_drewN | with_reducible refine Below.alloc ?_ (by first | (simp; done) | (simp; omega) | omega) _ | with_reducible refine Below.setCell ?_ (by first | (simp; done) | (simp; omega) | omega) _))⟩
      · have hPB : PB = stp x y := by rw [HE1.out, Bool.true_and]
        clear HE1
        go_wp2_with fail
        refine (maystep_any _ _ _).mono ?_
        rintro e w2 ⟨rfl, hb⟩
        have hz := hb.size
        try simp at hz
        have hB' : Below w.heap.size w w2 := Below.trans (by repeat (first | with_reducible exact hB | with_reducible exact Below.refl _ _ | with_reducible apply Below.drew | with_reducible apply below_drewN | with_reducible refine Below.alloc ?_ (by first | (simp; done) | (simp; omega) | omega) _ | with_reducible refine Below.setCell ?_ (by first | (simp; done) | (simp; omega) | omega) _)) (hb.mono (by first | (simp; done) | (simp; omega) | omega))
        have hB := hB'
        clear hB'
        have l0 : w.heap.size < w2.heap.size := by omega
        have l0a : w.heap.size ≤ w2.heap.size := by omega
        have l0b : w.heap.size ≤ w2.heap.size + 1 := by omega
        have l1 : wr.heap.size < w2.heap.size := by omega
        have l1a : wr.heap.size ≤ w2.heap.size := by omega
        have l1b : wr.heap.size ≤ w2.heap.size + 1 := by omega
        have l2 : w1.heap.size < w2.heap.size := by omega
        have l2a : w1.heap.size ≤ w2.heap.size := by omega
        have l2b : w1.heap.size ≤ w2.heap.size + 1 := by omega
        have k0 : w2.cell? ⟨w.heap.size, 0, none⟩ = some (.int .i64 px) := (hb.cell (by first | (simp; done) | (simp; omega) | omega)).trans (by first | (go_keep; done) | (go_simp; done))
        have k1 : w2.cell? ⟨w.heap.size, 1, none⟩ = some (.int .i64 py) := (hb.cell (by first | (simp; done) | (simp; omega) | omega)).trans (by first | (go_keep; done) | (go_simp; done))
        have k2 : w2.cell? ⟨wr.heap.size, 0, none⟩ = some (.int .i64 x) := (hb.cell (by first | (simp; done) | (simp; omega) | omega)).trans (by first | (go_keep; done) | (go_simp; done))
        have k3 : w2.cell? ⟨wr.heap.size, 1, none⟩ = some (.int .i64 y) := (hb.cell (by first | (simp; done) | (simp; omega) | omega)).trans (by first | (go_keep; done) | (go_simp; done))
        have k4 : w2.cell? ⟨w1.heap.size, 0, none⟩ = some (.int .i64 PX) := (hb.cell (by first | (simp; done) | (simp; omega) | omega)).trans (by first | (go_keep; done) | (go_simp; done))
        have k5 : w2.cell? ⟨w1.heap.size, 1, none⟩ = some (.int .i64 PY) := (hb.cell (by first | (simp; done) | (simp; omega) | omega)).trans (by first | (go_keep; done) | (go_simp; done))
        clear hb
        rw [← hPB]
        have HPB := Lib.hid hPB
        clear hPB
        cases PB
        · clear HE2
          have q9 : (stp px py == stp px py) = true := by simp
          go_wp2_with fail
          refine (HP2.out _ _ (by simp)).mono ?_
          rintro e w3 ⟨rfl, hb⟩
          have hz := hb.size
          try simp at hz
          have hB' : Below w.heap.size w w3 := Below.trans (by repeat (first | with_reducible exact hB | with_reducible exact Below.refl _ _ | with_reducible apply Below.drew | with_reducible apply below_drewN | with_reducible refine Below.alloc ?_ (by first | (simp; done) | (simp; omega) | omega) _ | with_reducible refine Below.setCell ?_ (by first | (simp; done) | (simp; omega) | omega) _)) (hb.mono (by first | (simp; done) | (simp; omega) | omega))
          have hB := hB'
          clear hB'
          have l0 : w.heap.size < w3.heap.size := by omega
          have l0a : w.heap.size ≤ w3.heap.size := by omega
          have l0b : w.heap.size ≤ w3.heap.size + 1 := by omega
          have k0 : w3.cell? ⟨w.heap.size, 0, none⟩ = some (.int .i64 px) := (hb.cell (by first | (simp; done) | (simp; omega) | omega)).trans (by first | (go_keep; done) | (go_simp; done))
          have k1 : w3.cell? ⟨w.heap.size, 1, none⟩ = some (.int .i64 py) := (hb.cell (by first | (simp; done) | (simp; omega) | omega)).trans (by first | (go_keep; done) | (go_simp; done))
          clear hb
          go_wp2_with fail
          refine (maystep_any _ _ _).mono ?_
          rintro e w4 ⟨rfl, hb⟩
          have hz := hb.size
          try simp at hz
          have hB' : Below w.heap.size w w4 := Below.trans (by repeat (first | with_reducible exact hB | with_reducible exact Below.refl _ _ | with_reducible apply Below.drew | with_reducible apply below_drewN | with_reducible refine Below.alloc ?_ (by first | (simp; done) | (simp; omega) | omega) _ | with_reducible refine Below.setCell ?_ (by first | (simp; done) | (simp; omega) | omega) _)) (hb.mono (by first | (simp; done) | (simp; omega) | omega))
          have hB := hB'
          clear hB'
          have l0 : w3.heap.size < w4.heap.size := by omega
          have l0a : w3.heap.size ≤ w4.heap.size := by omega
          have l0b : w3.heap.size ≤ w4.heap.size + 1 := by omega
          have k0 : w4.cell? ⟨w3.heap.size, 0, none⟩ = some (.int .i64 0) := (hb.cell (by first | (simp; done) | (simp; omega) | omega)).trans (by first | (go_keep; done) | (go_simp; done))
          have k1 : w4.cell? ⟨w3.heap.size, 1, none⟩ = some (.int .i64 0) := (hb.cell (by first | (simp; done) | (simp; omega) | omega)).trans (by first | (go_keep; done) | (go_simp; done))
          clear hb
          go_wp2_with fail
          refine (awake_any _).mono ?_
          rintro e w5 ⟨rfl, hb⟩
          have hz := hb.size
          try simp at hz
          have hB' : Below w.heap.size w w5 := Below.trans (by repeat (first | with_reducible exact hB | with_reducible exact Below.refl _ _ | with_reducible apply Below.drew | with_reducible apply below_drewN | with_reducible refine Below.alloc ?_ (by first | (simp; done) | (simp; omega) | omega) _ | with_reducible refine Below.setCell ?_ (by first | (simp; done) | (simp; omega) | omega) _)) (hb.mono (by first | (simp; done) | (simp; omega) | omega))
          have hB := hB'
          clear hB'
          clear hb
          go_wp2_with fail
          go_ret
          exact ⟨rfl, (by repeat (first | with_reducible exact hB | with_reducible exact Below.refl _ _ | with_reducible apply Below.drew | with_reducible apply below_drewN | with_reducible refine Below.alloc ?_ (by first | (simp; done) | (simp; omega) | omega) _ | with_reducible refine Below.setCell ?_ (by first | (simp; done) | (simp; omega) | omega) _))⟩
        · obtain ⟨rfl, rfl⟩ := HE2.out rfl
          clear HE2
          have q9 : (stp px py == stp px py) = true := by simp
          go_wp2_with fail
          refine (HP2.out _ _ (by simp)).mono ?_
          rintro e w3 ⟨rfl, hb⟩
          have hz := hb.size
          try simp at hz
          have hB' : Below w.heap.size w w3 := Below.trans (by repeat (first | with_reducible exact hB | with_reducible exact Below.refl _ _ | with_reducible apply Below.drew | with_reducible apply below_drewN | with_reducible refine Below.alloc ?_ (by first | (simp; done) | (simp; omega) | omega) _ | with_reducible refine Below.setCell ?_ (by first | (simp; done) | (simp; omega) | omega) _)) (hb.mono (by first | (simp; done) | (simp; omega) | omega))
          have hB := hB'
          clear hB'
          have l0 : w.heap.size < w3.heap.size := by omega
          have l0a : w.heap.size ≤ w3.heap.size := by omega
          have l0b : w.heap.size ≤ w3.heap.size + 1 := by omega
          have k0 : w3.cell? ⟨w.heap.size, 0, none⟩ = some (.int .i64 px) := (hb.cell (by first | (simp; done) | (simp; omega) | omega)).trans (by first | (go_keep; done) | (go_simp; done))
          have k1 : w3.cell? ⟨w.heap.size, 1, none⟩ = some (.int .i64 py) := (hb.cell (by first | (simp; done) | (simp; omega) | omega)).trans (by first | (go_keep; done) | (go_simp; done))
          clear hb
          go_wp2_with fail
          refine (maystep_any _ _ _).mono ?_
          rintro e w4 ⟨rfl, hb⟩
          have hz := hb.size
          try simp at hz
          have hB' : Below w.heap.size w w4 := Below.trans (by repeat (first | with_reducible exact hB | with_reducible exact Below.refl _ _ | with_reducible apply Below.drew | with_reducible apply below_drewN | with_reducible refine Below.alloc ?_ (by first | (simp; done) | (simp; omega) | omega) _ | with_reducible refine Below.setCell ?_ (by first | (simp; done) | (simp; omega) | omega) _)) (hb.mono (by first | (simp; done) | (simp; omega) | omega))
          have hB := hB'
          clear hB'
          have l0 : w3.heap.size < w4.heap.size := by omega
          have l0a : w3.heap.size ≤ w4.heap.size := by omega
          have l0b : w3.heap.size ≤ w4.heap.size + 1 := by omega
          have k0 : w4.cell? ⟨w3.heap.size, 0, none⟩ = some (.int .i64 0) := (hb.cell (by first | (simp; done) | (simp; omega) | omega)).trans (by first | (go_keep; done) | (go_simp; done))
          have k1 : w4.cell? ⟨w3.heap.size, 1, none⟩ = some (.int .i64 0) := (hb.cell (by first | (simp; done) | (simp; omega) | omega)).trans (by first | (go_keep; done) | (go_simp; done))
          clear hb
          go_wp2_with fail
          refine (awake_any _).mono ?_
          rintro e w5 ⟨rfl, hb⟩
          have hz := hb.size
          try simp at hz
          have hB' : Below w.heap.size w w5 := Below.trans (by repeat (first | with_reducible exact hB | with_reducible exact Below.refl _ _ | with_reducible apply Below.drew | with_reducible apply below_drewN | with_reducible refine Below.alloc ?_ (by first | (simp; done) | (simp; omega) | omega) _ | with_reducible refine Below.setCell ?_ (by first | (simp; done) | (simp; omega) | omega) _)) (hb.mono (by first | (simp; done) | (simp; omega) | omega))
          have hB := hB'
          clear hB'
          clear hb
          go_wp2_with fail
          go_ret
          exact ⟨rfl, (by repeat (first | with_reducible exact hB | with_reducible exact Below.refl _ _ | with_reducible apply Below.drew | with_reducible apply below_drewN | with_reducible refine Below.alloc ?_ (by first | (simp; done) | (simp; omega) | omega) _ | with_reducible refine Below.setCell ?_ (by first | (simp; done) | (simp; omega) | omega) _))⟩

set_option maxRecDepth 100000 in
theorem lifted (os : Os) (started : os.Started) (H : Type) (enc : TypeId × Value → H) :
    ReturnsInHanded {} Try.checked os 5 .any (Rows.turnPathSpec.pre6 enc Try.prog Try.f5 Rows.turnPathRow.domain false) (Rows.turnPathSpec.post enc Try.prog Try.f5 false true false false) := by
  refine law_lifted (C := Try.checked) (tb := 4) Try.own started (by kernel_rfl) Try.func5 Try.laidOut (by kernel_rfl) rfl Try.underlying4 rfl
    (fun ds hds => by match ds, hds with | [_, _, _], _ => rfl)
    (ChangeSpec.witness6 (enc := enc) (C := Try.checked) false ⟨#[], #[.slice none 0 0, .agg #[.int .i64 0, .int .i64 0], .int .i64 0], []⟩ 8 (by kernel_rfl) (by kernel_rfl) (by kernel_rfl) (by kernel_rfl)) ?_
  intro W base args ds p hval0 hA0 hsz0
  have hval : ∀ (j : Nat) t v, Try.f5.params[j]? = some t → args[j]? = some v → Value.okWide Try.prog W .any base t v := hval0
  have hA : DataW.TrodAll enc Try.prog W 0 (fun _ => true) true Try.f5.params.toList args.toList ds p := hA0
  have hsz : (DataW.weightsEach Try.prog Try.f5.params.toList ds).all (· ≤ reachBytes) = true := hsz0
  rw [Try.params5] at hA hval hsz
  obtain ⟨v0, vs0, d0, ds0, p0, q0, hargs, rfl, rfl, h0, r0⟩ := trodAll_cons hA
  obtain ⟨v1, vs1, d1, ds1, p1, q1, rfl, rfl, rfl, h1, r1⟩ := trodAll_cons r0
  obtain ⟨v2, vs2, d2, ds2, p2, q2, rfl, rfl, rfl, h2, r2⟩ := trodAll_cons r1
  obtain ⟨rfl, rfl, rfl⟩ := trodAll_nil r2
  obtain rfl : args = #[v0, v1, v2] := by cases args; simp_all
  obtain ⟨x1, y1, rfl, wx1, wy1⟩ := open_point (hval 1 _ v1 rfl rfl) h1
  obtain ⟨a2, rfl, rfl, rfl, w2⟩ := open_int Try.underlying3 (hval 2 _ v2 rfl rfl) h2
  obtain ⟨A, cap, l, rfl, hlc, hd, hs⟩ := open_pts h0 (okWide_slice Try.underlying35 (hval 0 _ v0 rfl rfl))
  have hm : l.length ≤ 1152921504606846976 := by
    rcases hd with ⟨rfl, _⟩ | ⟨el, sp, rfl, he⟩
    · simp
    · have := sized_slice hsz (j := 0) rfl rfl Try.underlying35
      rw [Try.bytesPoint] at this
      simp only [reachBytes] at this
      omega
  exact walk A cap l x1 y1 a2 W hm hlc hs

theorem proved : Rows.TurnPathSaid :=
  OpenClaim.holds_of_wide 5 Try.f5 rfl rfl rfl rfl rfl rfl rfl ⟨rfl, rfl, rfl, rfl, rfl⟩ rfl rfl rfl rfl rfl (by kernel_rfl) Try.func5 (by kernel_rfl)
    (of_decide_eq_true (by kernel_rfl)) (by unfold Func.isWrapper; rw [if_neg (by decide +kernel)]; exact ⟨rfl, rfl⟩)
    (fun os started H enc _ => lifted os started H enc)
#print axioms proved

end Go.Proofs.Ytkjeebabcdnjkaa.turnPath
