/-
  The walks of up, down: a number shifted by less than a digit.
-/
import Derived.Test.YtkjeebabcdnjkaaWide4
import Derived.Test.YtkjeebabcdnjkaaShift
set_option linter.unusedVariables false
namespace Go.Proofs.Ytkjeebabcdnjkaa
open Go.RowKit

theorem lim_set2 (m : Nat) (f g : Nat → Nat) (i : Nat) (u : Value) (x : Int) (hi : i < m) (hv : x = ((g i : Nat) : Int)) (h : ∀ j, j < m → j ≠ i → f j = g j) : ((lim m f).setIfInBounds i u).setIfInBounds i (.int .u64 x) = lim m g := by
  rw [← lim_set m f g i x hi hv h]
  apply Array.ext_getElem?
  intro j
  simp only [Array.getElem?_setIfInBounds, Array.size_setIfInBounds]
  split <;> simp_all

/-- The digits of what is shifted up, as far as they are reckoned (from the top). -/
def upTo (v k n : Nat) : Nat → Nat := fun j => if n ≤ j then dg (v * 2 ^ k) j else 0
theorem upTo_step (v k n j : Nat) (h : j ≠ n) : upTo v k (n + 1) j = upTo v k n j := by
  unfold upTo; by_cases hj : n ≤ j <;> simp [hj, show n + 1 ≤ j ↔ n < j from Iff.rfl] <;> omega
theorem upTo_at (v k n : Nat) : upTo v k n n = dg (v * 2 ^ k) n := by unfold upTo; rw [if_pos (Nat.le_refl _)]

set_option maxRecDepth 100000 in
theorem up_any (g o v k : Nat) (hk : k < 64) (w : World) (hd : Digs w g o v) :
    Calls Try.prog 45 #[.pointer (some ⟨g, o, none⟩), .int .i64 k] w fun e w' => e = .returned (.agg (sz (v * 2 ^ k))) ∧ Below w.heap.size w w' := by
  have HD := Lib.hid hd
  clear hd
  have q0 : (k : Int) / 64 = 0 := by omega
  have q1 : (k : Int).tdiv 64 = 0 := Int.tdiv_eq_zero_of_lt (by omega) (by omega)
  have q2 : (k : Int).tmod 64 = k := Int.tmod_eq_of_lt (by omega) (by omega)
  have q3 : (k : Int) % 64 = k := by omega
  go_enter Try.func45, Try.ntmps45
  go_wp2
  go_loopw [6] (fun i wr => ∃ n : Nat, n ≤ 16 ∧ i = .int .i64 (n - 1) ∧ IsRow wr (w.heap.size + 1) 52 (lim 16 (upTo v k n)) ∧ IsRow wr w.heap.size 52 (sz 0) ∧ Below w.heap.size w wr) (fun i _ => (intOf i + 1).toNat)
  case atStart =>
    refine ⟨16, by omega, rfl, ?_, ?_, by repeat (first | with_reducible exact Below.refl _ _ | with_reducible refine Below.alloc ?_ (by first | (simp; done) | (simp; omega) | omega) _)⟩
    · rw [lim_same 16 (upTo v k 16) (dg 0) (fun j hj => by rw [dg_zero]; unfold upTo; rw [if_neg (by omega)])]
      rw [← sz_zero]
      have := IsRow.new (w.alloc (.cells (sz 0) 52)) (sz 0) 52
      rw [show (w.alloc (.cells (sz 0) 52)).heap.size = w.heap.size + 1 from by simp] at this
      exact this
    · rw [← sz_zero]
      exact (IsRow.new _ _ _).alloc _
  case round =>
    obtain ⟨n, hn, rfl, hrow, hres, hbel⟩ := hrel
    match n, hn with
    | 0, hn =>
      rw [lim_same 16 (upTo v k 0) (dg (v * 2 ^ k)) (fun j hj => by unfold upTo; rw [if_pos (by omega)])] at hrow
      have hrow' : IsRow wr (w.heap.size + 1) 52 (sz (v * 2 ^ k)) := hrow
      clear hrow
      go_wp2_with (first | (refine isLoadL (ty := 52) rfl ?_; refine wpList_load_row ?_ 52 _ rfl (w.heap.size + 1) rfl _ (sz (v * 2 ^ k)) _ _ (hrow') Try.underlying52 rfl (by rw [sz_size]; kernel_rfl) ?_; (focus rfl)) | (refine isStoreL (ty := 52) rfl ?_; refine wpList_store_row ?_ 52 _ _ rfl (w.heap.size) (sz (v * 2 ^ k)) rfl rfl _ (_) (hres) (by rw [sz_size]; kernel_rfl) (by simp) (sz_one _) ?_; (focus rfl)) | fail)
      exact bodyPost_ret (results_cell_row Try.results45 _ _ w.heap.size _ _ _ _ rfl (hres.row _) Try.underlying52 rfl (by rw [sz_size]; kernel_rfl)) rfl ⟨rfl, below_setRow hbel (Nat.le_refl _) _⟩
    | n + 1, hn =>
      have e1 : ((n + 1 : Nat) : Int) - 1 = n := by omega
      rw [e1]
      have c1 : wr.cell? ⟨g, o + n, none⟩ = some (.int .u64 ((dg v n : Nat) : Int)) := (hbel.cell (p := ⟨g, o + n, none⟩) HD.out.lt).trans (HD.out n (by omega))
      have c3 := hrow.cell (lim_get 16 (upTo v k (n + 1)) n (by omega))
      have f3 := hrow.frozen n
      have hz := hbel.size
      have hrow1 := hrow.set n (.int .u64 (IntKind.u64.wrap (((dg v n : Nat) : Int) * 2 ^ k)))
      have hres1 : IsRow (wr.setCell ⟨w.heap.size + 1, n, none⟩ (.int .u64 (IntKind.u64.wrap (((dg v n : Nat) : Int) * 2 ^ k)))) w.heap.size 52 (sz 0) := hres.setOther _ _ (by simp)
      have hbel1 : Below w.heap.size w (wr.setCell ⟨w.heap.size + 1, n, none⟩ (.int .u64 (IntKind.u64.wrap (((dg v n : Nat) : Int) * 2 ^ k)))) := hbel.setCell (by simp) _
      by_cases hk0 : 0 < k ∧ 0 < n
      · obtain ⟨hk0, hn0⟩ := hk0
        go_wp2_with fail
        clear c1 c3 f3 hrow hres hbel
        generalize wr.setCell ⟨w.heap.size + 1, n, none⟩ (.int .u64 (IntKind.u64.wrap (((dg v n : Nat) : Int) * 2 ^ k))) = W at *
        have c2 : W.cell? ⟨g, o + (n - 1), none⟩ = some (.int .u64 ((dg v (n - 1) : Nat) : Int)) := (hbel1.cell (p := ⟨g, o + (n - 1), none⟩) HD.out.lt).trans (HD.out (n - 1) (by omega))
        have c3 : W.cell? ⟨w.heap.size + 1, n, none⟩ = some (.int .u64 (IntKind.u64.wrap (((dg v n : Nat) : Int) * 2 ^ k))) := hrow1.cell (by rw [Array.getElem?_setIfInBounds]; simp; omega)
        have f3 := hrow1.frozen n
        go_region
        go_wp2_with fail
        go_roundw
        case rel =>
          refine ⟨n, by omega, by go_num, ?_, hres1.setOther _ _ (by simp), (hbel1.setCell (by simp) _).drew⟩
          have h2 := hrow1.set n (.int .u64 (bits .or .u64 (IntKind.u64.wrap (((dg v n : Nat) : Int) * 2 ^ k)) (((dg v (n - 1) : Nat) : Int) / 2 ^ (64 - k))))
          rw [lim_set2 16 (upTo v k (n + 1)) (upTo v k n) n _ _ (by omega) (by rw [or_up _ _ _ hk0 hk (dg_lt _ _), upTo_at, shl_step v k n hk hn0]) (fun j _ hj => upTo_step v k n j hj)] at h2
          exact h2
        case measure => simp [intOf]
      · have hval : IntKind.u64.wrap (((dg v n : Nat) : Int) * 2 ^ k) = ((upTo v k n n : Nat) : Int) := by
          rw [u64_shl, upTo_at]
          by_cases hn0 : n = 0
          · subst hn0; rw [shl_zero]
          · obtain rfl : k = 0 := by omega
            rw [Nat.pow_zero, Nat.mul_one, Nat.mul_one, Nat.mod_eq_of_lt (dg_lt v n)]
        rw [lim_set 16 (upTo v k (n + 1)) (upTo v k n) n _ (by omega) hval (fun j _ hj => upTo_step v k n j hj)] at hrow1
        have HV := Lib.hid hval
        clear hval
        by_cases hk1 : 0 < k
        · have hn0 : ¬ 0 < n := fun h => hk0 ⟨hk1, h⟩
          have hn1 : decide ((n : Int) > 0) = false := decide_eq_false (by omega)
          clear hk0
          go_wp2_with fail
          go_roundw
          case rel => exact ⟨n, by omega, by go_num, hrow1, hres1, hbel1⟩
          case measure => simp [intOf]
        · clear hk0
          have hk2 : decide ((k : Int) > 0) = false := decide_eq_false (by omega)
          go_wp2_with fail
          go_roundw
          case rel => exact ⟨n, by omega, by go_num, hrow1, hres1, hbel1⟩
          case measure => simp [intOf]
end Go.Proofs.Ytkjeebabcdnjkaa
