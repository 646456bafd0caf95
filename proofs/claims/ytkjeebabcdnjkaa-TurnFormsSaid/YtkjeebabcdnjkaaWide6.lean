/-
  The walk of down: a number shifted down by less than a digit.
-/
import Derived.Test.YtkjeebabcdnjkaaWide5
set_option linter.unusedVariables false
namespace Go.Proofs.Ytkjeebabcdnjkaa
open Go.RowKit

/-- The digits of what is shifted down, as far as they are reckoned. -/
def downTo (v k n : Nat) : Nat → Nat := fun j => if j < n then dg (v / 2 ^ k) j else 0
theorem downTo_step (v k n j : Nat) (h : j ≠ n) : downTo v k n j = downTo v k (n + 1) j := by
  unfold downTo; by_cases hj : j < n <;> simp [hj] <;> omega
theorem downTo_at (v k n : Nat) : downTo v k (n + 1) n = dg (v / 2 ^ k) n := by unfold downTo; rw [if_pos (by omega)]

set_option maxRecDepth 100000 in
set_option maxHeartbeats 400000 in
theorem down_any (g o v k : Nat) (hk : k < 64) (hv : v < Bs ^ 16) (w : World) (hd : Digs w g o v) :
    Calls Try.prog 49 #[.pointer (some ⟨g, o, none⟩), .int .i64 k] w fun e w' => (∃ b, e = .returned (.tuple #[.agg (sz (v / 2 ^ k)), .bool b])) ∧ Below w.heap.size w w' := by
  have HD := Lib.hid hd
  clear hd
  have q0 : (k : Int) / 64 = 0 := by omega
  have q1 : (k : Int).tdiv 64 = 0 := Int.tdiv_eq_zero_of_lt (by omega) (by omega)
  have q2 : (k : Int).tmod 64 = k := Int.tmod_eq_of_lt (by omega) (by omega)
  have q3 : (k : Int) % 64 = k := by omega
  go_enter Try.func49, Try.ntmps49
  go_wp2
  have hrow0 : IsRow ((w.alloc (.cells #[.int .u64 0, .int .u64 0, .int .u64 0, .int .u64 0, .int .u64 0, .int .u64 0, .int .u64 0, .int .u64 0, .int .u64 0, .int .u64 0, .int .u64 0, .int .u64 0, .int .u64 0, .int .u64 0, .int .u64 0, .int .u64 0] 52)).alloc (.cells #[.int .u64 0, .int .u64 0, .int .u64 0, .int .u64 0, .int .u64 0, .int .u64 0, .int .u64 0, .int .u64 0, .int .u64 0, .int .u64 0, .int .u64 0, .int .u64 0, .int .u64 0, .int .u64 0, .int .u64 0, .int .u64 0] 52)) (w.heap.size + 1) 52 (sz 0) := by
    rw [← sz_zero]
    have := IsRow.new (w.alloc (.cells (sz 0) 52)) (sz 0) 52
    rw [show (w.alloc (.cells (sz 0) 52)).heap.size = w.heap.size + 1 from by simp] at this
    exact this
  have hres0 : IsRow ((w.alloc (.cells #[.int .u64 0, .int .u64 0, .int .u64 0, .int .u64 0, .int .u64 0, .int .u64 0, .int .u64 0, .int .u64 0, .int .u64 0, .int .u64 0, .int .u64 0, .int .u64 0, .int .u64 0, .int .u64 0, .int .u64 0, .int .u64 0] 52)).alloc (.cells #[.int .u64 0, .int .u64 0, .int .u64 0, .int .u64 0, .int .u64 0, .int .u64 0, .int .u64 0, .int .u64 0, .int .u64 0, .int .u64 0, .int .u64 0, .int .u64 0, .int .u64 0, .int .u64 0, .int .u64 0, .int .u64 0] 52)) w.heap.size 52 (sz 0) := by
    rw [← sz_zero]
    exact (IsRow.new _ _ _).alloc _
  have hbel0 : Below w.heap.size w ((w.alloc (.cells #[.int .u64 0, .int .u64 0, .int .u64 0, .int .u64 0, .int .u64 0, .int .u64 0, .int .u64 0, .int .u64 0, .int .u64 0, .int .u64 0, .int .u64 0, .int .u64 0, .int .u64 0, .int .u64 0, .int .u64 0, .int .u64 0] 52)).alloc (.cells #[.int .u64 0, .int .u64 0, .int .u64 0, .int .u64 0, .int .u64 0, .int .u64 0, .int .u64 0, .int .u64 0, .int .u64 0, .int .u64 0, .int .u64 0, .int .u64 0, .int .u64 0, .int .u64 0, .int .u64 0, .int .u64 0] 52)) := by
    repeat (first | with_reducible exact Below.refl _ _ | with_reducible refine Below.alloc ?_ (by first | (simp; done) | (simp; omega) | omega) _)
  generalize ((w.alloc (.cells #[.int .u64 0, .int .u64 0, .int .u64 0, .int .u64 0, .int .u64 0, .int .u64 0, .int .u64 0, .int .u64 0, .int .u64 0, .int .u64 0, .int .u64 0, .int .u64 0, .int .u64 0, .int .u64 0, .int .u64 0, .int .u64 0] 52)).alloc (.cells #[.int .u64 0, .int .u64 0, .int .u64 0, .int .u64 0, .int .u64 0, .int .u64 0, .int .u64 0, .int .u64 0, .int .u64 0, .int .u64 0, .int .u64 0, .int .u64 0, .int .u64 0, .int .u64 0, .int .u64 0, .int .u64 0] 52)) = W0 at hrow0 hres0 hbel0 ⊢
  go_loopw [7, 13] (fun r i wr => wr = W0 ∧ r = .bool false ∧ i = .int .i64 0) (fun _ _ _ => 0)
  case atStart => exact ⟨rfl, rfl, rfl⟩
  case round =>
    obtain ⟨e0, rfl, rfl⟩ := hrel
    have e1 := e0.symm
    clear e0
    subst e1
    go_wp2_with fail
    go_loopw [9] (fun i wr => ∃ n : Nat, n ≤ 16 ∧ i = .int .i64 n ∧ IsRow wr (w.heap.size + 1) 52 (lim 16 (downTo v k n)) ∧ IsRow wr w.heap.size 52 (sz 0) ∧ Below w.heap.size w wr) (fun i _ => 16 - (intOf i).toNat)
    case atStart =>
      refine ⟨0, by omega, rfl, ?_, hres0, hbel0⟩
      rw [lim_same 16 (downTo v k 0) (dg 0) (fun j hj => by rw [dg_zero]; unfold downTo; rw [if_neg (by omega)])]
      exact hrow0
    case round =>
      obtain ⟨n, hn, rfl, hrow, hres, hbel⟩ := hrel
      by_cases hlt : n < 16
      · have c1 : wr.cell? ⟨g, o + n, none⟩ = some (.int .u64 ((dg v n : Nat) : Int)) := (hbel.cell (p := ⟨g, o + n, none⟩) HD.out.lt).trans (HD.out n (by omega))
        have c3 := hrow.cell (lim_get 16 (downTo v k n) n hlt)
        have f3 := hrow.frozen n
        have hz := hbel.size
        have hrow1 := hrow.set n (.int .u64 (((dg v n : Nat) : Int) / 2 ^ k))
        have hres1 : IsRow (wr.setCell ⟨w.heap.size + 1, n, none⟩ (.int .u64 (((dg v n : Nat) : Int) / 2 ^ k))) w.heap.size 52 (sz 0) := hres.setOther _ _ (by simp)
        have hbel1 : Below w.heap.size w (wr.setCell ⟨w.heap.size + 1, n, none⟩ (.int .u64 (((dg v n : Nat) : Int) / 2 ^ k))) := hbel.setCell (by simp) _
        by_cases hk0 : 0 < k ∧ n + 1 < 16
        · obtain ⟨hk0, hn0⟩ := hk0
          go_wp2_with fail
          clear c1 c3 f3 hrow hres hbel
          generalize wr.setCell ⟨w.heap.size + 1, n, none⟩ (.int .u64 (((dg v n : Nat) : Int) / 2 ^ k)) = W at *
          have c2 : W.cell? ⟨g, o + (n + 1), none⟩ = some (.int .u64 ((dg v (n + 1) : Nat) : Int)) := (hbel1.cell (p := ⟨g, o + (n + 1), none⟩) HD.out.lt).trans (HD.out (n + 1) (by omega))
          have c3 : W.cell? ⟨w.heap.size + 1, n, none⟩ = some (.int .u64 (((dg v n : Nat) : Int) / 2 ^ k)) := hrow1.cell (by rw [Array.getElem?_setIfInBounds]; simp; omega)
          have f3 := hrow1.frozen n
          go_region
          go_wp2_with fail
          go_roundw
          case rel =>
            refine ⟨n + 1, by omega, by go_num, ?_, hres1.setOther _ _ (by simp), (hbel1.setCell (by simp) _).drew⟩
            have h2 := hrow1.set n (.int .u64 (bits .or .u64 (((dg v n : Nat) : Int) / 2 ^ k) (IntKind.u64.wrap (((dg v (n + 1) : Nat) : Int) * 2 ^ (64 - k)))))
            rw [lim_set2 16 (downTo v k n) (downTo v k (n + 1)) n _ _ (by omega) (by rw [or_down _ _ _ hk0 hk (dg_lt _ _), downTo_at, shr_step v n k hk]) (fun j _ hj => downTo_step v k n j hj)] at h2
            exact h2
          case measure => simp [intOf]; omega
        · have hval : ((dg v n : Nat) : Int) / 2 ^ k = ((downTo v k (n + 1) n : Nat) : Int) := by
            rw [int_shr, downTo_at, shr_step v n k hk]
            by_cases hn0 : n + 1 < 16
            · obtain rfl : k = 0 := by omega
              rw [show dg v (n + 1) * 2 ^ (64 - 0) % 18446744073709551616 = 0 from Nat.mul_mod_left _ _, Nat.add_zero]
            · obtain rfl : n = 15 := by omega
              rw [dg_big v 16 hv, Nat.zero_mul, Nat.zero_mod, Nat.add_zero]
          rw [lim_set 16 (downTo v k n) (downTo v k (n + 1)) n _ (by omega) hval (fun j _ hj => downTo_step v k n j hj)] at hrow1
          have HV := Lib.hid hval
          clear hval
          by_cases hk1 : 0 < k
          · have hn0 : ¬ n + 1 < 16 := fun h => hk0 ⟨hk1, h⟩
            have hn1 : decide ((n : Int) + 1 < 16) = false := decide_eq_false (by omega)
            clear hk0
            go_wp2_with fail
            go_roundw
            case rel => exact ⟨n + 1, by omega, by go_num, hrow1, hres1, hbel1⟩
            case measure => simp [intOf]; omega
          · clear hk0
            have hk2 : decide ((k : Int) > 0) = false := decide_eq_false (by omega)
            go_wp2_with fail
            go_roundw
            case rel => exact ⟨n + 1, by omega, by go_num, hrow1, hres1, hbel1⟩
            case measure => simp [intOf]; omega
      · obtain rfl : n = 16 := by omega
        have c1 : wr.cell? ⟨g, o, none⟩ = some (.int .u64 ((dg v 0 : Nat) : Int)) := (hbel.cell (p := ⟨g, o, none⟩) HD.out.lt).trans (HD.out 0 (by omega))
        rw [lim_same 16 (downTo v k 16) (dg (v / 2 ^ k)) (fun j hj => by unfold downTo; rw [if_pos hj])] at hrow
        have hrow' : IsRow wr (w.heap.size + 1) 52 (sz (v / 2 ^ k)) := hrow
        clear hrow
        by_cases hk1 : 0 < k
        · go_wp2_with (first | (refine isLoadL (ty := 52) rfl ?_; refine wpList_load_row ?_ 52 _ rfl (w.heap.size + 1) rfl _ (sz (v / 2 ^ k)) _ _ (hrow') Try.underlying52 rfl (by rw [sz_size]; kernel_rfl) ?_; (focus rfl)) | (refine isStoreL (ty := 52) rfl ?_; refine wpList_store_row ?_ 52 _ _ rfl (w.heap.size) (sz (v / 2 ^ k)) rfl rfl _ (_) (hres) (by rw [sz_size]; kernel_rfl) (by simp) (sz_one _) ?_; (focus rfl)) | fail)
          have hl := run_loadVar_row (P := Try.prog) (wr.setRow w.heap.size (sz (v / 2 ^ k))) w.heap.size _ 52 (sz (v / 2 ^ k)) _ _ (hres.row _) Try.underlying52 rfl (by rw [sz_size]; kernel_rfl)
          refine bodyPost_ret (v := .tuple #[.agg (sz (v / 2 ^ k)), .bool _]) (by simp [results, Try.results49, asAddr, hl]; rfl) rfl ⟨⟨_, rfl⟩, below_setRow hbel (Nat.le_refl _) _⟩
        · have hk2 : decide ((k : Int) > 0) = false := decide_eq_false (by omega)
          go_wp2_with (first | (refine isLoadL (ty := 52) rfl ?_; refine wpList_load_row ?_ 52 _ rfl (w.heap.size + 1) rfl _ (sz (v / 2 ^ k)) _ _ (hrow') Try.underlying52 rfl (by rw [sz_size]; kernel_rfl) ?_; (focus rfl)) | (refine isStoreL (ty := 52) rfl ?_; refine wpList_store_row ?_ 52 _ _ rfl (w.heap.size) (sz (v / 2 ^ k)) rfl rfl _ (_) (hres) (by rw [sz_size]; kernel_rfl) (by simp) (sz_one _) ?_; (focus rfl)) | fail)
          have hl := run_loadVar_row (P := Try.prog) (wr.setRow w.heap.size (sz (v / 2 ^ k))) w.heap.size _ 52 (sz (v / 2 ^ k)) _ _ (hres.row _) Try.underlying52 rfl (by rw [sz_size]; kernel_rfl)
          refine bodyPost_ret (v := .tuple #[.agg (sz (v / 2 ^ k)), .bool _]) (by simp [results, Try.results49, asAddr, hl]; rfl) rfl ⟨⟨_, rfl⟩, below_setRow hbel (Nat.le_refl _) _⟩
end Go.Proofs.Ytkjeebabcdnjkaa
