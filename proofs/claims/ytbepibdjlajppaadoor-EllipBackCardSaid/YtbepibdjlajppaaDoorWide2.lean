
/-
  The walk of add: two numbers of sixteen digits together.
-/
import Derived.Test.YtbepibdjlajppaaDoorWide1
import Derived.Deep.RegionHeld3
import Derived.Laws.CopyOwn
set_option linter.unusedVariables false
namespace Go.Proofs.YtbepibdjlajppaaDoor
open Go.RowKit

/-- The digits of a sum, as far as they are reckoned. -/
def addTo (a b i : Nat) : Nat → Nat := fun j => if j < i then dg (a + b) j else 0

set_option maxHeartbeats 1000000 in
theorem add_any (g o a h p b : Nat) (w : World) (hd : Digs w g o a) (he : Digs w h p b) :
    Calls Tryd.prog 75 #[.pointer (some ⟨g, o, none⟩), .pointer (some ⟨h, p, none⟩)] w fun e w' => e = .returned (.tuple #[.agg (sz (a + b)), .int .u64 (cry a b 16)]) ∧ Below w.heap.size w w' := by
  have HD := Lib.hid hd
  have HE := Lib.hid he
  clear hd he
  go_enter Tryd.func75, Tryd.ntmps75
  go_wp2
  go_loopw [7, 9] (fun c i wr => ∃ k : Nat, k ≤ 16 ∧ i = .int .i64 k ∧ c = .int .u64 (cry a b k) ∧ IsRow wr (w.heap.size + 1) 44 (lim 16 (addTo a b k)) ∧ IsRow wr w.heap.size 44 (sz 0) ∧ Below w.heap.size w wr) (fun _ i _ => 16 - (intOf i).toNat)
  case atStart =>
    refine ⟨0, by omega, rfl, by rw [cry_zero]; rfl, ?_, ?_, by repeat (first | with_reducible exact Below.refl _ _ | with_reducible refine Below.alloc ?_ (by first | (simp; done) | (simp; omega) | omega) _)⟩
    · rw [lim_same 16 (addTo a b 0) (dg 0) (fun j _ => by rw [dg_zero]; unfold addTo; rw [if_neg (by omega)])]
      rw [← sz_zero]
      have := IsRow.new (w.alloc (.cells (sz 0) 44)) (sz 0) 44
      rw [show (w.alloc (.cells (sz 0) 44)).heap.size = w.heap.size + 1 from by simp] at this
      exact this
    · rw [← sz_zero]
      exact (IsRow.new _ _ _).alloc _
  case round =>
    obtain ⟨k, hk, rfl, rfl, hrow, hres, hbel⟩ := hrel
    by_cases hlt : k < 16
    · have c1 : wr.cell? ⟨g, o + k, none⟩ = some (.int .u64 ((dg a k : Nat) : Int)) := (hbel.cell (p := ⟨g, o + k, none⟩) HD.out.lt).trans (HD.out k hlt)
      have c2 : wr.cell? ⟨h, p + k, none⟩ = some (.int .u64 ((dg b k : Nat) : Int)) := (hbel.cell (p := ⟨h, p + k, none⟩) HE.out.lt).trans (HE.out k hlt)
      have c3 := hrow.cell (lim_get 16 (addTo a b k) k hlt)
      have f3 := hrow.frozen k
      have hz := hbel.size
      have q1 := dg_lt a k
      have q2 := dg_lt b k
      have q3 := cry_le a b k
      have ha : ∀ w : World, (callFunc 61 #[.int .u64 (dg a k : Nat), .int .u64 (dg b k : Nat), .int .u64 (cry a b k : Nat)]).run Tryd.prog w =
        .ok (.value (.tuple #[.int .u64 (dg (a + b) k : Nat), .int .u64 (cry a b (k + 1) : Nat)])) w := fun w => by
        rw [add64 _ _ _ (by omega) (by omega) (by omega) (by omega) (by omega) (by omega)]
        have e1 := cry_dig a b k
        have e2 := cry_next a b k
        rw [show ((dg a k : Nat) : Int) + (dg b k : Nat) + (cry a b k : Nat) = ((dg a k + dg b k + cry a b k : Nat) : Int) from by omega]
        rw [show (((dg a k + dg b k + cry a b k : Nat) : Int) % 18446744073709551616) = ((dg (a + b) k : Nat) : Int) from by omega]
        rw [show (((dg a k + dg b k + cry a b k : Nat) : Int) / 18446744073709551616) = ((cry a b (k + 1) : Nat) : Int) from by omega]
      go_wp2_with fail
      go_region
      go_wp2_with fail
      go_roundw
      case rel =>
        refine ⟨k + 1, by omega, by go_num, rfl, ?_, ?_, by repeat (first | with_reducible exact hbel | with_reducible apply Below.drew | with_reducible apply below_drewN | with_reducible refine Below.setCell ?_ (by first | (simp; done) | (simp; omega) | omega) _)⟩
        · have := hrow.drew.set k (.int .u64 (dg (a + b) k : Nat))
          rw [lim_set 16 (addTo a b k) (addTo a b (k + 1)) k _ hlt (by unfold addTo; rw [if_pos (by omega)]) (fun j hj hne => by unfold addTo; by_cases hjk : j < k <;> simp [hjk, show j < k + 1 ↔ j < k by omega])] at this
          exact this
        · exact hres.drew.setOther _ _ (by simp)
      case measure => simp [intOf]; omega
    · obtain rfl : k = 16 := by omega
      rw [lim_same 16 (addTo a b 16) (dg (a + b)) (fun j hj => by unfold addTo; rw [if_pos hj])] at hrow
      have hrow' : IsRow wr (w.heap.size + 1) 44 (sz (a + b)) := hrow
      clear hrow
      go_wp2_with (first | (refine wpList_load_row rfl 44 _ rfl (w.heap.size + 1) rfl _ (sz (a + b)) _ _ hrow' Tryd.underlying44 rfl (by rw [sz_size]; kernel_rfl) ?_) | (refine wpList_store_row rfl 44 _ _ rfl w.heap.size (sz (a + b)) rfl rfl _ (sz 0) hres (by rw [sz_size]; kernel_rfl) (by simp) (sz_one _) ?_))
      have hrow2 := hres.row (sz (a + b))
      have hl := run_loadVar_row (P := Tryd.prog) (wr.setRow w.heap.size (sz (a + b))) w.heap.size _ 44 (sz (a + b)) _ _ hrow2 Tryd.underlying44 rfl (by rw [sz_size]; kernel_rfl)
      refine bodyPost_ret (v := .tuple #[.agg (sz (a + b)), .int .u64 (cry a b 16 : Nat)]) (by simp [results, Tryd.results75, asAddr, hl]) rfl ⟨rfl, below_setRow hbel (Nat.le_refl _) _⟩
end Go.Proofs.YtbepibdjlajppaaDoor
