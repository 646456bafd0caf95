/-
  The walk of Next.
-/
import Derived.Test.YtphilonmniidmaaRows
import Derived.Test.YtphilonmniidmaaPlain
import Derived.WalkKit
import Derived.WalkSpells
import Derived.WalkLawsBesides
import Derived.Lib.Hide
namespace Go.Proofs.Ytphilonmniidmaa
open Go.RowKit

/-- What a walk is told of a slice of integers: it is nil; or it leads to a row of 'cap' cells, the numbers 'zs'. -/
def IsRow (k : IntKind) (w : World) (a : Option Addr) (len cap : Nat) (zs : List Int) : Prop :=
  (a = none ∧ len = 0 ∧ cap = 0 ∧ zs = []) ∨
  ∃ x, a = some x ∧ len ≤ cap ∧ cap ≤ maxLen ∧ zs.length = cap ∧ (∀ i, i < zs.length → w.cell? (x.add i) = some (.int k (zs.getD i 0))) ∧ ∀ n ∈ zs, (Lit.int k n).wf = true

theorem take_snoc (zs : List Int) (k : Nat) (h : k < zs.length) : zs.take (k + 1) = zs.take k ++ [zs.getD k 0] := by
  rw [List.take_succ_eq_append_getElem h, List.getD_eq_getElem?_getD, List.getElem?_eq_getElem h]; rfl

set_option maxHeartbeats 400000 in
theorem next_any (a : Option Addr) (len cap : Nat) (zs : List Int) (after : Int) (w : World) (hr : IsRow .i64 w a len cap zs) :
    Calls Try.prog 8 #[.slice a len cap, .int .i64 after] w fun e w' => e = .returned (.tuple #[.int .i64 (nextN (zs.take len) after), .bool (nextB (zs.take len) after)]) ∧ w = w' := by
  rcases hr with ⟨rfl, rfl, rfl, rfl⟩ | ⟨x, rfl, hl, hm, hz, hc, hwf⟩
  · go_enter Try.func8, Try.ntmps8
    go_wp2
    go_loop [6, 7, 8, 9, 11, 14] (fun s6 s7 s8 s9 s11 s14 => s6 = .int .i64 0 ∧ s7 = .int .i64 0 ∧ s8 = .bool false ∧ s9 = .bool false ∧ s14 = .int .i64 0) (fun _ _ _ _ _ i => 0)
    case atStart => exact ⟨rfl, rfl, rfl, rfl, rfl⟩
    case round =>
      obtain ⟨rfl, rfl, rfl, rfl, rfl⟩ := hrel
      go_wp2
      go_ret2
      exact ⟨rfl, rfl⟩
  · unfold maxLen at hm
    go_enter Try.func8, Try.ntmps8
    go_wp2
    go_loop [6, 7, 8, 9, 11, 14] (fun s6 s7 s8 s9 s11 s14 => ∃ k : Nat, ∃ s : Nx, k ≤ len ∧ Hid (s = Nx.of after (zs.take k)) ∧ s6 = .int .i64 s.least ∧ s7 = .int .i64 s.next ∧ s8 = .bool s.any ∧ s9 = .bool s.behind ∧ s14 = .int .i64 k) (fun _ _ _ _ _ i => len - (intOf i).toNat)
    case atStart => exact ⟨0, Nx.init, Nat.zero_le _, rfl, rfl, rfl, rfl, rfl, rfl⟩
    case round =>
      obtain ⟨k, s, hk, hs, rfl, rfl, rfl, rfl, rfl⟩ := hrel
      obtain ⟨least, next, any, behind⟩ := s
      by_cases hlt : k < len
      · have hcell := hc k (by omega)
        have HS : Hid (Nx.of after (zs.take (k + 1)) = Nx.step after ⟨least, next, any, behind⟩ (zs.getD k 0)) := by rw [take_snoc zs k (by omega), Nx.of_snoc, ← hs.out]; exact rfl
        generalize zs.getD k 0 = n at *
        clear hc hwf hs
        cases any <;> cases behind
        all_goals
          go_wp2
          all_goals
            go_round
            case rel =>
              refine ⟨k + 1, ⟨_, _, _, _⟩, by omega, ?_, rfl, rfl, rfl, rfl, by go_num⟩
              show _ = _
              rw [HS.out]
              simp only [Nx.step]
              simp (discharger := omega) [*]
              try omega
            case measure => simp [intOf]; omega
      · obtain rfl : k = len := by omega
        have HN : Hid (nextN (zs.take k) after = if behind = true then next else least) := by show _ = _; rw [nextN, ← hs.out]
        have HB : Hid (nextB (zs.take k) after = if behind = true then true else any) := by show _ = _; rw [nextB, ← hs.out]
        clear hc hwf hs
        cases behind
        all_goals
          go_wp2
          go_ret2
          exact ⟨by rw [HN.out, HB.out]; rfl, rfl⟩

end Go.Proofs.Ytphilonmniidmaa
