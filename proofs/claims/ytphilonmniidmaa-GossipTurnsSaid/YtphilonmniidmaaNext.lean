/-
  The walks of Next, and of the reference's.
-/
import Derived.Test.YtphilonmniidmaaRows
import Derived.Test.YtphilonmniidmaaBase
import Derived.Test.YtphilonmniidmaaNextPlain
set_option linter.unusedVariables false
namespace Go.Proofs.Ytphilonmniidmaa
open Go.RowKit

theorem take_snoc (zs : List Int) (k : Nat) (h : k < zs.length) : zs.take (k + 1) = zs.take k ++ [zs.getD k 0] := by
  rw [List.take_succ_eq_append_getElem h, List.getD_eq_getElem?_getD, List.getElem?_eq_getElem h]; rfl

set_option maxHeartbeats 400000 in
theorem next_any (a : Option Addr) (cap : Nat) (zs : List Int) (B : Nat) (after : Int) (w : World) (hm : zs.length ≤ 4611686018427387904) (hs : Seg w B a zs.length (ints .i64 zs)) :
    Calls Try.prog 8 #[.slice a zs.length cap, .int .i64 after] w fun e w' => e = .returned (.tuple #[.int .i64 (nextN zs after), .bool (nextB zs after)]) ∧ w = w' := by
  have HC : Hid (∀ k, k < zs.length → ∃ x, a = some x ∧ w.cell? (x.add k) = some (.int .i64 (zs.getD k 0))) := fun k hk => by
    obtain ⟨x, e, _, hc⟩ := hs (by omega)
    exact ⟨x, e, hc k hk⟩
  clear hs
  generalize hL : zs.length = len at *
  have HL := Lib.hid hL
  clear hL
  go_enter Try.func8, Try.ntmps8
  go_wp2
  go_loop [6, 7, 8, 9, 11, 14] (fun s6 s7 s8 s9 s11 s14 => ∃ k : Nat, ∃ s : Nx, k ≤ len ∧ Hid (s = Nx.of after (zs.take k)) ∧ s6 = .int .i64 s.least ∧ s7 = .int .i64 s.next ∧ s8 = .bool s.any ∧ s9 = .bool s.behind ∧ s14 = .int .i64 k) (fun _ _ _ _ _ i => len - (intOf i).toNat)
  case atStart => exact ⟨0, Nx.init, Nat.zero_le _, rfl, rfl, rfl, rfl, rfl, rfl⟩
  case round =>
    obtain ⟨k, s, hk, hs, rfl, rfl, rfl, rfl, rfl⟩ := hrel
    obtain ⟨least, next, any, behind⟩ := s
    by_cases hlt : k < len
    · obtain ⟨x, rfl, hcell⟩ := HC.out k hlt
      have HS : Hid (Nx.of after (zs.take (k + 1)) = Nx.step after ⟨least, next, any, behind⟩ (zs.getD k 0)) := by rw [take_snoc zs k (by rw [HL.out]; exact hlt), Nx.of_snoc, ← hs.out]; exact rfl
      generalize zs.getD k 0 = n at *
      clear HC hs HL
      cases any <;> cases behind
      all_goals
        go_wp2
        all_goals
          go_round
          case rel =>
            refine ⟨k + 1, ⟨_, _, _, _⟩, by omega, ?_, rfl, rfl, rfl, rfl, by go_num⟩
            show _ = _
            rw [HS.out]
            simp only [Nx.step]
            simp (discharger := omega) [*]
            try omega
          case measure => simp [intOf]; omega
    · obtain rfl : k = len := by omega
      have ht : zs.take k = zs := List.take_of_length_le (by rw [HL.out]; exact Nat.le_refl _)
      have HN : Hid (nextN zs after = if behind = true then next else least) := by show _ = _; rw [nextN, ← ht, ← hs.out]
      have HB : Hid (nextB zs after = if behind = true then true else any) := by show _ = _; rw [nextB, ← ht, ← hs.out]
      clear HC hs ht HL
      cases behind
      all_goals
        go_wp2
        go_ret2
        exact ⟨by rw [HN.out, HB.out]; rfl, rfl⟩

set_option maxHeartbeats 400000 in
theorem rnext_any (a : Option Addr) (cap : Nat) (zs : List Int) (B : Nat) (after : Int) (w : World) (hm : zs.length ≤ 4611686018427387904) (hs : Seg w B a zs.length (ints .i64 zs)) :
    Calls Try.prog 11 #[.slice a zs.length cap, .int .i64 after] w fun e w' => e = .returned (.tuple #[.int .i64 (nextN zs after), .bool (nextB zs after)]) ∧ w = w' := by
  have HC : Hid (∀ k, k < zs.length → ∃ x, a = some x ∧ w.cell? (x.add k) = some (.int .i64 (zs.getD k 0))) := fun k hk => by
    obtain ⟨x, e, _, hc⟩ := hs (by omega)
    exact ⟨x, e, hc k hk⟩
  clear hs
  generalize hL : zs.length = len at *
  have HL := Lib.hid hL
  clear hL
  go_enter Try.func11, Try.ntmps11
  go_wp2
  go_loop [6, 7, 8, 9, 10, 13] (fun s6 s7 s8 s9 s10 s13 => ∃ k : Nat, ∃ s : Rx, k ≤ len ∧ Hid (s = Rx.of after (zs.take k)) ∧ s6 = .int .i64 s.best ∧ s7 = .int .i64 s.least ∧ s8 = .bool s.more ∧ s13 = .int .i64 k) (fun _ _ _ _ _ i => len - (intOf i).toNat)
  case atStart => exact ⟨0, Rx.init, Nat.zero_le _, rfl, rfl, rfl, rfl, rfl⟩
  case round =>
    obtain ⟨k, s, hk, hs, rfl, rfl, rfl, rfl⟩ := hrel
    obtain ⟨best, least, more⟩ := s
    by_cases hlt : k < len
    · obtain ⟨x, rfl, hcell⟩ := HC.out k hlt
      have HS : Hid (Rx.of after (zs.take (k + 1)) = Rx.step after (decide (k = 0)) ⟨best, least, more⟩ (zs.getD k 0)) := by
        have he : (zs.take k).isEmpty = decide (k = 0) := by
          have hl := HL.out
          cases zs with
          | nil => simp at hl; omega
          | cons z zs => cases k <;> simp
        show _ = _
        rw [take_snoc zs k (by rw [HL.out]; exact hlt), Rx.of_snoc, ← hs.out, he]
      generalize zs.getD k 0 = n at *
      clear HC hs HL
      by_cases hk0 : k = 0
      · subst hk0
        have hcell0 : w.cell? x = some (.int .i64 n) := by simpa [Addr.add] using hcell
        clear hcell
        cases more
        all_goals
          go_wp2
          all_goals
            go_round
            case rel =>
              refine ⟨0 + 1, ⟨_, _, _⟩, by omega, ?_, rfl, rfl, rfl, by go_num⟩
              show _ = _
              rw [HS.out]
              simp only [Rx.step]
              simp (discharger := omega) [*]
              try omega
            case measure => simp [intOf]; omega
      · have hb : ((k : Int) == 0) = false := by simp; omega
        cases more
        all_goals
          go_wp2
          all_goals
            go_round
            case rel =>
              refine ⟨k + 1, ⟨_, _, _⟩, by omega, ?_, rfl, rfl, rfl, by go_num⟩
              show _ = _
              rw [HS.out]
              simp only [Rx.step]
              simp (discharger := omega) [*]
              try omega
            case measure => simp [intOf]; omega
    · obtain rfl : k = len := by omega
      have ht : zs.take k = zs := List.take_of_length_le (by rw [HL.out]; exact Nat.le_refl _)
      have HN : Hid (nextN zs after = if more = true then best else least) := by
        have := hs.out; rw [ht] at this; simp only [Rx.of, Rx.mk.injEq] at this; show _ = _; rw [nextN, this.1, this.2.1, this.2.2]
      have HB : Hid (nextB zs after = decide (0 < k)) := by
        show _ = _; rw [nextB_eq, ← HL.out]; cases zs <;> simp
      have HB1 : Hid (more = true → nextB zs after = true) := by
        have := hs.out; rw [ht] at this; simp only [Rx.of, Rx.mk.injEq] at this
        intro hm; rw [nextB, if_pos (by rw [← this.2.2]; exact hm)]
      clear HC hs ht HL
      cases more
      · go_wp2
        go_ret2
        exact ⟨by rw [HN.out, HB.out]; rfl, rfl⟩
      · go_wp2
        go_ret2
        exact ⟨by rw [HN.out, HB1.out (by simp)]; rfl, rfl⟩
end Go.Proofs.Ytphilonmniidmaa
