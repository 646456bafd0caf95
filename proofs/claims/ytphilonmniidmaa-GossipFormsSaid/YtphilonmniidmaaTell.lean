/-
  The walks of Tell.
-/
import Derived.Test.YtphilonmniidmaaNext
import Derived.Test.YtphilonmniidmaaFresh
import Derived.Test.YtphilonmniidmaaEnt
set_option linter.unusedVariables false
namespace Go.Proofs.Ytphilonmniidmaa
open Go.RowKit

theorem Try.info_int : (Try.prog.info? 3).map (fun i => (i.zero, i.size, i.bytes)) = some (some (.int .i64 0), 1, 8) := by kernel_rfl

/-- The nodes that have a track. -/
def tracked (es : List Ent) : List Int := (es.filter (·.has)).map (·.node)

theorem tracked_snoc (es : List Ent) (e : Ent) : tracked (es ++ [e]) = tracked es ++ (if e.has = true then [e.node] else []) := by
  unfold tracked; rw [List.filter_append, List.map_append]; cases h : e.has <;> simp [h]
theorem tracked_len (es : List Ent) : (tracked es).length ≤ es.length := by
  unfold tracked; rw [List.length_map]; exact List.length_filter_le _ _
theorem take_snoc_e (es : List Ent) (k : Nat) (h : k < es.length) : es.take (k + 1) = es.take k ++ [es.getD k Ent.zero] := by
  rw [List.take_succ_eq_append_getElem h, List.getD_eq_getElem?_getD, List.getElem?_eq_getElem h]; rfl

set_option maxHeartbeats 800000 in
theorem tell_any (a : Option Addr) (cap : Nat) (es : List Ent) (after : Int) (w : World)
    (hm : es.length * 80 ≤ 140737488351232) (hs : Seg w w.heap.size a (es.length * 10) (ents es)) :
    Calls Try.prog 9 #[.slice a es.length cap, .int .i64 after] w fun e w' => e = .returned (.tuple #[.int .i64 (nextN (tracked es) after), .bool (nextB (tracked es) after)]) ∧ Below w.heap.size w w' := by
  obtain ⟨i0, hi0, hz0, hz1, hz2⟩ := info_parts Try.info_int
  generalize hL : es.length = n at *
  have HL := Lib.hid hL
  clear hL
  have HS := Lib.hid hs
  clear hs
  go_enter Try.func9, Try.ntmps9
  go_wp2
  go_loopw [6, 8, 11] (fun v _ i wr => ∃ k : Nat, k ≤ n ∧ i = .int .i64 k ∧ Hid (wr.ownsRow w.heap.size 3 1 v (tracked (es.take k)).length ((tracked (es.take k)).map (Value.int .i64))) ∧ Below w.heap.size w wr) (fun _ _ i _ => n - (intOf i).toNat)
  case atStart => exact ⟨0, Nat.zero_le _, rfl, ⟨by simp [tracked], .inl ⟨rfl, rfl⟩⟩, Below.refl _ _⟩
  case round =>
    obtain ⟨k, hk, rfl, hown, hbel⟩ := hrel
    by_cases hlt : k < n
    · have hts := take_snoc_e es k (by rw [HL.out]; exact hlt)
      have hseg : Seg wr w.heap.size a (es.length * 10) (ents es) := by rw [HL.out]; exact HS.out.below hbel
      obtain ⟨x, rfl, hb, c0, c1, c2, c3, c4, c5, c6, c7, c8, c9⟩ := ents_cells hseg k (by rw [HL.out]; exact hlt) _ rfl
      clear hseg
      have htr := tracked_snoc (es.take k) (es.getD k Ent.zero)
      rw [← hts] at htr
      clear hts
      generalize es.getD k Ent.zero = e at *
      have HTR := Lib.hid htr
      clear htr
      cases hh : e.has
      · rw [hh] at c3
        have HH := Lib.hid hh
        clear hh
        go_wp2_with fail
        go_roundw
        case rel => exact ⟨k + 1, by omega, by go_num, by show World.ownsRow _ _ _ _ _ _ _; rw [HTR.out, HH.out]; simpa using (hown.out.alloc _), hbel.alloc hbel.size _⟩
        case measure => simp [intOf]; omega
      · rw [hh] at c3
        have HH := Lib.hid hh
        clear hh
        have hsz := hbel.size
        have hln := tracked_len (es.take k)
        have hlk : (es.take k).length ≤ k := List.length_take_le _ _
        go_wp2_with (at_builtin; refine wpList_append_own _ rfl _ _ 22 rfl w.heap.size 3 i0 (.int .i64 0) 1 8 Try.underlying22 hi0 hz0 hz1 hz2 rfl (by decide) _ _ _ rfl ((hown.out.alloc _).alloc _) ⟨wr.heap.size + 1, 0, none⟩ 1 1 [.int .i64 e.node] rfl rfl ?c1 ?c2 ?c3 ?c4 ?c5 ?_)
        case c1 => exact cell_one_at _ _ _ _ (by simp)
        case c2 => intro u hu; simp at hu; subst hu; rfl
        case c3 => unfold maxLen; omega
        case c4 => omega
        case c5 => simp; omega
        intro v' w1 hown1 hg1 _
        have hb1 : Below w.heap.size w w1 := by
          refine ((hbel.alloc hbel.size _).alloc (by simp; omega) _).grown hg1 (by simp; omega) (own_block_ge hown.out)
        have HO : Hid (w1.ownsRow w.heap.size 3 1 v' (tracked (es.take (k + 1))).length ((tracked (es.take (k + 1))).map (Value.int .i64))) := by
          show World.ownsRow _ _ _ _ _ _ _
          rw [HTR.out, HH.out]
          simpa using hown1
        clear hown hown1 hg1
        go_wp2_with fail
        go_roundw
        case rel => exact ⟨k + 1, by omega, by go_num, HO, hb1⟩
        case measure => simp [intOf]; omega
    · obtain rfl : k = n := by omega
      have htk : es.take k = es := List.take_of_length_le (by rw [HL.out]; exact Nat.le_refl _)
      have hln := tracked_len es
      rw [htk] at hown
      have hlen : (tracked es).length ≤ 4611686018427387904 := by have := HL.out; omega
      have HLN := Lib.hid hlen
      obtain ⟨A, c, rfl⟩ := own_slice hown.out
      have hseg := Seg.ints_of_own hown.out
      have HG := Lib.hid hseg
      clear HS htk hln hlen hown hseg
      go_wp2_with fail
      refine (next_any _ _ _ _ _ _ HLN.out HG.out).mono ?_
      rintro e w' ⟨rfl, rfl⟩
      go_wp2_with fail
      go_ret2
      exact ⟨rfl, hbel⟩

set_option maxHeartbeats 800000 in
theorem rtell_any (a : Option Addr) (cap : Nat) (es : List Ent) (after : Int) (w : World)
    (hm : es.length * 80 ≤ 140737488351232) (hs : Seg w w.heap.size a (es.length * 10) (ents es)) :
    Calls Try.prog 12 #[.slice a es.length cap, .int .i64 after] w fun e w' => e = .returned (.tuple #[.int .i64 (nextN (tracked es) after), .bool (nextB (tracked es) after)]) ∧ Below w.heap.size w w' := by
  obtain ⟨i0, hi0, hz0, hz1, hz2⟩ := info_parts Try.info_int
  generalize hL : es.length = n at *
  have HL := Lib.hid hL
  clear hL
  have HS := Lib.hid hs
  clear hs
  go_enter Try.func12, Try.ntmps12
  go_wp2
  go_loopw [6, 8, 11] (fun v _ i wr => ∃ k : Nat, k ≤ n ∧ i = .int .i64 k ∧ Hid (wr.ownsRow w.heap.size 3 1 v (tracked (es.take k)).length ((tracked (es.take k)).map (Value.int .i64))) ∧ Below w.heap.size w wr) (fun _ _ i _ => n - (intOf i).toNat)
  case atStart => exact ⟨0, Nat.zero_le _, rfl, ⟨by simp [tracked], .inl ⟨rfl, rfl⟩⟩, Below.refl _ _⟩
  case round =>
    obtain ⟨k, hk, rfl, hown, hbel⟩ := hrel
    by_cases hlt : k < n
    · have hts := take_snoc_e es k (by rw [HL.out]; exact hlt)
      have hseg : Seg wr w.heap.size a (es.length * 10) (ents es) := by rw [HL.out]; exact HS.out.below hbel
      obtain ⟨x, rfl, hb, c0, c1, c2, c3, c4, c5, c6, c7, c8, c9⟩ := ents_cells hseg k (by rw [HL.out]; exact hlt) _ rfl
      clear hseg
      have htr := tracked_snoc (es.take k) (es.getD k Ent.zero)
      rw [← hts] at htr
      clear hts
      generalize es.getD k Ent.zero = e at *
      have HTR := Lib.hid htr
      clear htr
      cases hh : e.has
      · rw [hh] at c3
        have HH := Lib.hid hh
        clear hh
        go_wp2_with fail
        go_roundw
        case rel => exact ⟨k + 1, by omega, by go_num, by show World.ownsRow _ _ _ _ _ _ _; rw [HTR.out, HH.out]; simpa using (hown.out.alloc _), hbel.alloc hbel.size _⟩
        case measure => simp [intOf]; omega
      · rw [hh] at c3
        have HH := Lib.hid hh
        clear hh
        have hsz := hbel.size
        have hln := tracked_len (es.take k)
        have hlk : (es.take k).length ≤ k := List.length_take_le _ _
        go_wp2_with (at_builtin; refine wpList_append_own _ rfl _ _ 22 rfl w.heap.size 3 i0 (.int .i64 0) 1 8 Try.underlying22 hi0 hz0 hz1 hz2 rfl (by decide) _ _ _ rfl ((hown.out.alloc _).alloc _) ⟨wr.heap.size + 1, 0, none⟩ 1 1 [.int .i64 e.node] rfl rfl ?c1 ?c2 ?c3 ?c4 ?c5 ?_)
        case c1 => exact cell_one_at _ _ _ _ (by simp)
        case c2 => intro u hu; simp at hu; subst hu; rfl
        case c3 => unfold maxLen; omega
        case c4 => omega
        case c5 => simp; omega
        intro v' w1 hown1 hg1 _
        have hb1 : Below w.heap.size w w1 := by
          refine ((hbel.alloc hbel.size _).alloc (by simp; omega) _).grown hg1 (by simp; omega) (own_block_ge hown.out)
        have HO : Hid (w1.ownsRow w.heap.size 3 1 v' (tracked (es.take (k + 1))).length ((tracked (es.take (k + 1))).map (Value.int .i64))) := by
          show World.ownsRow _ _ _ _ _ _ _
          rw [HTR.out, HH.out]
          simpa using hown1
        clear hown hown1 hg1
        go_wp2_with fail
        go_roundw
        case rel => exact ⟨k + 1, by omega, by go_num, HO, hb1⟩
        case measure => simp [intOf]; omega
    · obtain rfl : k = n := by omega
      have htk : es.take k = es := List.take_of_length_le (by rw [HL.out]; exact Nat.le_refl _)
      have hln := tracked_len es
      rw [htk] at hown
      have hlen : (tracked es).length ≤ 4611686018427387904 := by have := HL.out; omega
      have HLN := Lib.hid hlen
      obtain ⟨A, c, rfl⟩ := own_slice hown.out
      have hseg := Seg.ints_of_own hown.out
      have HG := Lib.hid hseg
      clear HS htk hln hlen hown hseg
      go_wp2_with fail
      refine (rnext_any _ _ _ _ _ _ HLN.out HG.out).mono ?_
      rintro e w' ⟨rfl, rfl⟩
      go_wp2_with fail
      go_ret2
      exact ⟨rfl, hbel⟩
end Go.Proofs.Ytphilonmniidmaa
