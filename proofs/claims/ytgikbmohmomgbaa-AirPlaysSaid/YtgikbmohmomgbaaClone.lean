
/-
  The walk of slices.Clone at bytes.
-/
import Derived.Test.YtgikbmohmomgbaaRows
import Derived.Test.YtgikbmohmomgbaaBase
set_option linter.unusedVariables false
namespace Go.Proofs.Ytgikbmohmomgbaa
open Go.RowKit

theorem Try.info_u8 : (Try.prog.info? 5).map (fun i => (i.zero, i.size, i.bytes)) = some (some (.int .u8 0), 1, 1) := by kernel_rfl

theorem eql_nil {P : Program} (w : World) (t e : TypeId) (a : Option Addr) (l c : Nat) (h : P.underlying t = some (.slice e)) : (binOp .eql t (.slice a l c) (.slice none 0 0)).run P w = .ok (.bool a.isNone) w := by
  simp [binOp, run_equal_slice_nil w t e a l c h]

theorem ownsRow_mono {w : World} {base base' : Nat} {e : TypeId} {size : Nat} {v : Value} {n : Nat} {xs : List Value} (h : w.ownsRow base e size v n xs) (hb : base' ≤ base) : w.ownsRow base' e size v n xs := by
  obtain ⟨h1, h2⟩ := h
  refine ⟨h1, ?_⟩
  rcases h2 with h2 | ⟨g, cap, cur, hv, hg, r⟩
  · exact .inl h2
  · exact .inr ⟨g, cap, cur, hv, by omega, r⟩

theorem clone_nil (w : World) : Calls Try.prog 23 #[.slice none 0 0] w fun e w' => e = .returned (.slice none 0 0) ∧ w = w' := by
  have h0 := fun w : World => eql_nil (P := Try.prog) w 26 5 none 0 0 Try.underlying26
  go_enter Try.func23, Try.ntmps23
  go_wp2
  go_ret
  exact ⟨rfl, rfl⟩

theorem clone_any (x : Addr) (cap : Nat) (bs : List Int) (w : World) (hm : bs.length ≤ 1048576) (hc : ∀ j, j < bs.length → w.cell? (x.add j) = some (.int .u8 (bs.getD j 0))) :
    Calls Try.prog 23 #[.slice (some x) bs.length cap] w fun e w' => ∃ g c, e = .returned (.slice (some ⟨g, 0, none⟩) bs.length c) ∧ w'.ownsRow w.heap.size 5 1 (.slice (some ⟨g, 0, none⟩) bs.length c) bs.length (bs.map (Value.int .u8)) ∧ w.heap.size ≤ g ∧ Below w.heap.size w w' := by
  obtain ⟨i0, hi0, hz0, hz1, hz2⟩ := info_parts Try.info_u8
  have h0 := fun w : World => eql_nil (P := Try.prog) w 26 5 (some x) bs.length cap Try.underlying26
  go_enter Try.func23, Try.ntmps23
  have hown : (w.alloc (.cells #[] 5)).ownsRow w.heap.size 5 1 (.slice (some ⟨w.heap.size, 0, none⟩) 0 0) 0 [] :=
    ⟨by simp, .inr ⟨w.heap.size, 0, #[], rfl, Nat.le_refl _, heap_alloc_new w _, Nat.le_refl _, by simp, by simp, by simp⟩⟩
  have hblt : ∀ j, j < bs.length → x.block < w.heap.size := fun j hj => by have := World.block_lt_of_cell? _ _ (hc j hj); rwa [add_block] at this
  go_wp2_with (at_builtin; refine wpList_append_own _ rfl (.tmp 5) (.tmp 6) 26 rfl w.heap.size 5 i0 (.int .u8 0) 1 1 Try.underlying26 hi0 hz0 hz1 hz2 rfl (by decide) _ _ _ rfl hown x bs.length cap (bs.map (Value.int .u8)) rfl ?c1 ?c2 ?c3 ?c4 ?c5 ?c6 ?_)
  case c1 => simp
  case c2 =>
    intro j u hu
    have hj : j < bs.length := by
      rcases Nat.lt_or_ge j bs.length with h | h
      · exact h
      · rw [List.getElem?_eq_none (by simpa using h)] at hu; cases hu
    have hu2 : u = .int .u8 (bs.getD j 0) := by simp [hj, List.getD_eq_getElem?_getD] at hu ⊢; exact hu.symm
    rw [hu2, World.cell?_alloc_lt w _ _ (by rw [add_block]; exact hblt j hj)]
    exact hc j hj
  case c3 => intro u hu; obtain ⟨z, _, rfl⟩ := List.mem_map.1 hu; rfl
  case c4 => unfold maxLen; omega
  case c5 => omega
  case c6 => simp
  intro v' w1 hown1 hg1 hnil
  have hb1 : Below w.heap.size w w1 := ((Below.refl _ _).alloc (Nat.le_refl _) _).grown hg1 (by simp) (by intro k hk; simp [Value.ownBlock] at hk; omega)
  go_wp2_with fail
  go_ret
  have ho : w1.ownsRow w.heap.size 5 1 v' bs.length (bs.map (Value.int .u8)) := by simpa using hown1
  rcases ho.2 with ⟨rfl, _⟩ | ⟨g, c, cur, rfl, hge, _⟩
  · simp at hnil
  · exact ⟨g, c, rfl, ho, hge, hb1⟩

/-- A copy of mail without data. -/
theorem own_nil (to at_ tr : Int) (bent : Bool) (w : World) : Calls Try.prog 21 #[.agg #[.int .i64 to, .slice none 0 0, .int .i64 at_, .int .i64 tr, .bool bent]] w fun e w' => e = .returned (.agg #[.int .i64 to, .slice none 0 0, .int .i64 at_, .int .i64 tr, .bool bent]) ∧ Below w.heap.size w w' := by
  have hB : Below w.heap.size w w := Below.refl _ _
  go_enter Try.func21, Try.ntmps21
  go_wp2_with (go_at_call 23; refine (clone_nil _).mono ?_; rintro e w' ⟨rfl, rfl⟩)
  exact bodyPost_ret (v := .agg #[.int .i64 to, .slice none 0 0, .int .i64 at_, .int .i64 tr, .bool bent]) (by simp [results, Try.results21, go_sem]) rfl ⟨rfl, (by repeat (first | with_reducible exact hB | with_reducible exact Below.refl _ _ | with_reducible apply Below.drew | with_reducible apply below_drewN | with_reducible refine Below.alloc ?_ (by first | (simp; done) | (simp; omega) | omega) _ | with_reducible refine Below.setCell ?_ (by first | (simp; done) | (simp; omega) | omega) _))⟩

set_option maxHeartbeats 1000000 in
/-- A copy of mail with data: the data lies in new memory. -/
theorem own_some (to at_ tr : Int) (bent : Bool) (x : Addr) (cap : Nat) (bs : List Int) (w : World) (hm : bs.length ≤ 1048576) (hc : ∀ j, j < bs.length → w.cell? (x.add j) = some (.int .u8 (bs.getD j 0))) :
    Calls Try.prog 21 #[.agg #[.int .i64 to, .slice (some x) bs.length cap, .int .i64 at_, .int .i64 tr, .bool bent]] w fun e w' => ∃ g c, e = .returned (.agg #[.int .i64 to, .slice (some ⟨g, 0, none⟩) bs.length c, .int .i64 at_, .int .i64 tr, .bool bent]) ∧
      w'.ownsRow w.heap.size 5 1 (.slice (some ⟨g, 0, none⟩) bs.length c) bs.length (bs.map (Value.int .u8)) ∧ w.heap.size ≤ g ∧ Below w.heap.size w w' := by
  have hB : Below w.heap.size w w := Below.refl _ _
  have HC := Lib.hid hc
  clear hc
  go_enter Try.func21, Try.ntmps21
  go_wp2_with fail
  refine (clone_any x cap bs _ hm ?_).mono ?_
  · intro j hj
    have h := HC.out j hj
    exact cell_alloc_keep (cell_alloc_keep h)
  · rintro e w1 ⟨g, c, rfl, ho, hg, hb⟩
    have hz := hb.size
    simp at hz hg
    have hB' : Below w.heap.size w w1 := Below.trans (by repeat (first | with_reducible exact hB | with_reducible exact Below.refl _ _ | with_reducible apply Below.drew | with_reducible apply below_drewN | with_reducible refine Below.alloc ?_ (by first | (simp; done) | (simp; omega) | omega) _ | with_reducible refine Below.setCell ?_ (by first | (simp; done) | (simp; omega) | omega) _)) (hb.mono (by first | (simp; done) | (simp; omega) | omega))
    have hB := hB'
    clear hB'
    have k0 : w1.cell? ⟨w.heap.size, 0, none⟩ = some (.int .i64 to) := (hb.cell (by first | (simp; done) | (simp; omega) | omega)).trans (by go_simp)
    have k1 : w1.cell? ⟨w.heap.size, 1, none⟩ = some (.slice (some x) bs.length cap) := (hb.cell (by first | (simp; done) | (simp; omega) | omega)).trans (by go_simp)
    have k2 : w1.cell? ⟨w.heap.size, 2, none⟩ = some (.int .i64 at_) := (hb.cell (by first | (simp; done) | (simp; omega) | omega)).trans (by go_simp)
    have k3 : w1.cell? ⟨w.heap.size, 3, none⟩ = some (.int .i64 tr) := (hb.cell (by first | (simp; done) | (simp; omega) | omega)).trans (by go_simp)
    have k4 : w1.cell? ⟨w.heap.size, 4, none⟩ = some (.bool bent) := (hb.cell (by first | (simp; done) | (simp; omega) | omega)).trans (by go_simp)
    have k5 : w1.cell? ⟨w.heap.size + 1, 0, none⟩ = some (.int .i64 0) := (hb.cell (by first | (simp; done) | (simp; omega) | omega)).trans (by go_simp)
    have k6 : w1.cell? ⟨w.heap.size + 1, 1, none⟩ = some (.slice none 0 0) := (hb.cell (by first | (simp; done) | (simp; omega) | omega)).trans (by go_simp)
    have k7 : w1.cell? ⟨w.heap.size + 1, 2, none⟩ = some (.int .i64 0) := (hb.cell (by first | (simp; done) | (simp; omega) | omega)).trans (by go_simp)
    have k8 : w1.cell? ⟨w.heap.size + 1, 3, none⟩ = some (.int .i64 0) := (hb.cell (by first | (simp; done) | (simp; omega) | omega)).trans (by go_simp)
    have k9 : w1.cell? ⟨w.heap.size + 1, 4, none⟩ = some (.bool false) := (hb.cell (by first | (simp; done) | (simp; omega) | omega)).trans (by go_simp)
    have f0 : w1.frozen? ⟨w.heap.size, 0, none⟩ = false := (hb.frozen (by first | (simp; done) | (simp; omega) | omega)).trans (by go_simp)
    have f1 : w1.frozen? ⟨w.heap.size, 1, none⟩ = false := (hb.frozen (by first | (simp; done) | (simp; omega) | omega)).trans (by go_simp)
    have f2 : w1.frozen? ⟨w.heap.size, 2, none⟩ = false := (hb.frozen (by first | (simp; done) | (simp; omega) | omega)).trans (by go_simp)
    have f3 : w1.frozen? ⟨w.heap.size, 3, none⟩ = false := (hb.frozen (by first | (simp; done) | (simp; omega) | omega)).trans (by go_simp)
    have f4 : w1.frozen? ⟨w.heap.size, 4, none⟩ = false := (hb.frozen (by first | (simp; done) | (simp; omega) | omega)).trans (by go_simp)
    have f5 : w1.frozen? ⟨w.heap.size + 1, 0, none⟩ = false := (hb.frozen (by first | (simp; done) | (simp; omega) | omega)).trans (by go_simp)
    have f6 : w1.frozen? ⟨w.heap.size + 1, 1, none⟩ = false := (hb.frozen (by first | (simp; done) | (simp; omega) | omega)).trans (by go_simp)
    have f7 : w1.frozen? ⟨w.heap.size + 1, 2, none⟩ = false := (hb.frozen (by first | (simp; done) | (simp; omega) | omega)).trans (by go_simp)
    have f8 : w1.frozen? ⟨w.heap.size + 1, 3, none⟩ = false := (hb.frozen (by first | (simp; done) | (simp; omega) | omega)).trans (by go_simp)
    have f9 : w1.frozen? ⟨w.heap.size + 1, 4, none⟩ = false := (hb.frozen (by first | (simp; done) | (simp; omega) | omega)).trans (by go_simp)
    simp at ho
    have HO := Lib.hid ho
    clear hb ho
    go_wp2_with fail
    refine bodyPost_ret (v := .agg #[.int .i64 to, .slice (some ⟨g, 0, none⟩) bs.length c, .int .i64 at_, .int .i64 tr, .bool bent]) (by simp [results, Try.results21, go_sem, k5, k6, k7, k8, k9]) rfl ?_
    refine ⟨g, c, rfl, ?_, by omega, (by repeat (first | with_reducible exact hB | with_reducible exact Below.refl _ _ | with_reducible apply Below.drew | with_reducible apply below_drewN | with_reducible refine Below.alloc ?_ (by first | (simp; done) | (simp; omega) | omega) _ | with_reducible refine Below.setCell ?_ (by first | (simp; done) | (simp; omega) | omega) _))⟩
    refine ownsRow_mono (base := w.heap.size + 1 + 1) ?_ (by omega)
    repeat (first | with_reducible exact HO.out | with_reducible refine ownsRow_setCell_below ?_ (by first | (simp; done) | (simp; omega) | omega) _)
end Go.Proofs.Ytgikbmohmomgbaa
