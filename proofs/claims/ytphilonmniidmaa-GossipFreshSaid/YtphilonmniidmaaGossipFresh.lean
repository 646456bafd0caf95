/-
  The statement GossipFresh: for every input the law returns true.
-/
import Derived.Test.YtphilonmniidmaaGossipAwake
set_option linter.unusedVariables false
namespace Go.Proofs.Ytphilonmniidmaa

theorem umod (x m : Int) (h0 : 0 < m) (h1 : m ≤ 4611686018427387904) : 0 ≤ RowKit.wrap64 ((IntKind.u64.wrap x).tmod m) ∧ RowKit.wrap64 ((IntKind.u64.wrap x).tmod m) < m := by
  have hu : 0 ≤ IntKind.u64.wrap x := by simp only [IntKind.wrap, IntKind.bits, IntKind.signed]; simp; omega
  generalize IntKind.u64.wrap x = u at *
  rw [Int.tmod_eq_emod_of_nonneg hu]
  have a := Int.emod_nonneg u (by omega : m ≠ 0)
  have b := Int.emod_lt_of_pos u h0
  generalize u % m = v at *
  unfold RowKit.wrap64
  omega

namespace gossipFresh
open Go.ChangeShapes Go.WideShapes Go.ChangeAt Go.RowKit

theorem fr_law (st d sl sk : Int) (a0 : 0 ≤ st) (a1 : st < 100000) (b0 : 0 ≤ sl) (b1 : sl < 1000) (c0 : 0 ≤ sk) (c1 : sk < 100) (e1 : d ≤ 1200) (e2 : 0 ≤ st + d) :
    (fr st (st + d) sl sk == 0) = (decide (d ≤ sl) && decide (-d ≤ 2 * sk)) := by
  unfold fr
  rw [if_pos (by omega)]
  by_cases h : st + sl < st + d ∨ st + d + 2 * sk < st
  · rw [if_pos h]
    by_cases h1 : d ≤ sl
    · have : ¬ (-d ≤ 2 * sk) := by omega
      simp [this]
    · simp [h1]
  · rw [if_neg h]
    have h1 : d ≤ sl := by omega
    have h2 : -d ≤ 2 * sk := by omega
    simp [h1, h2]

theorem fr_later (st d sl sk la : Int) (a0 : 0 ≤ st) (a1 : st < 100000) (b0 : 0 ≤ sl) (b1 : sl < 1000) (c0 : 0 ≤ sk) (c1 : sk < 100) (l0 : 0 ≤ la) (l1 : la < 3000) (e1 : d ≤ 1200) (e2 : 0 ≤ st + d) (h : sl < d) :
    (fr st (st + d + la) sl sk == 0) = false := by
  unfold fr
  rw [if_pos (by omega), if_pos (by omega)]
  rfl

set_option maxHeartbeats 400000 in
theorem walk (a0 : Int) (a1 : Int) (a2 : Int) (a3 : Int) (w : World) :
    Calls Try.prog 5 #[.int .i64 a0, .int .i64 a1, .int .i64 a2, .int .i64 a3] w fun e w' => e = .returned (.bool true) ∧ Below w.heap.size w w' := by
  obtain ⟨b00, b01⟩ := umod a0 100000 (by decide) (by decide)
  obtain ⟨b10, b11⟩ := umod a1 1000 (by decide) (by decide)
  obtain ⟨b20, b21⟩ := umod a2 100 (by decide) (by decide)
  obtain ⟨b30, b31⟩ := umod a3 3000 (by decide) (by decide)
  go_enter Try.func5, Try.ntmps5
  go_wp2
  generalize wrap64 ((IntKind.u64.wrap a0).tmod 100000) = st at *
  generalize wrap64 ((IntKind.u64.wrap a1).tmod 1000) = sl at *
  generalize wrap64 ((IntKind.u64.wrap a2).tmod 100) = sk at *
  generalize wrap64 ((IntKind.u64.wrap a3).tmod 3000) = la at *
  go_loop [9, 10, 11] (fun s9 _ _ => ∃ d : Int, -300 ≤ d ∧ d ≤ 1207 ∧ s9 = .int .i64 d) (fun s9 _ _ => (1300 - intOf s9).toNat)
  case atStart => exact ⟨-300, by omega, by omega, rfl⟩
  case round =>
    obtain ⟨d, hd0, hd1, rfl⟩ := hrel
    by_cases hlt : d ≤ 1200
    · by_cases hn : st + d < 0
      · go_wp2
        go_round
        case rel => exact ⟨d + 7, by omega, by omega, rfl⟩
        case measure => simp [intOf]; omega
      · by_cases h1 : d ≤ sl
        · by_cases h2 : -d ≤ 2 * sk
          · have e1 : (fr st (st + d) sl sk == 0) = true := by rw [fr_law st d sl sk (by omega) (by omega) (by omega) (by omega) (by omega) (by omega) (by omega) (by omega)]; simp [h1, h2]
            go_wp2_with (go_at_call 10; refine (fresh_any _ _ _ _ _).mono ?_; rintro e w' ⟨rfl, rfl⟩)
            go_round
            case rel => exact ⟨d + 7, by omega, by omega, rfl⟩
            case measure => simp [intOf]; omega
          · have e1 : (fr st (st + d) sl sk == 0) = false := by rw [fr_law st d sl sk (by omega) (by omega) (by omega) (by omega) (by omega) (by omega) (by omega) (by omega)]; simp [h1, h2]
            go_wp2_with (go_at_call 10; refine (fresh_any _ _ _ _ _).mono ?_; rintro e w' ⟨rfl, rfl⟩)
            go_round
            case rel => exact ⟨d + 7, by omega, by omega, rfl⟩
            case measure => simp [intOf]; omega
        · have e1 : (fr st (st + d) sl sk == 0) = false := by rw [fr_law st d sl sk (by omega) (by omega) (by omega) (by omega) (by omega) (by omega) (by omega) (by omega)]; simp [h1]
          have e2 : (fr st (st + d + la) sl sk == 0) = false := fr_later st d sl sk la (by omega) (by omega) (by omega) (by omega) (by omega) (by omega) (by omega) (by omega) (by omega) (by omega) (by omega)
          go_wp2_with (go_at_call 10; refine (fresh_any _ _ _ _ _).mono ?_; rintro e w' ⟨rfl, rfl⟩)
          go_round
          case rel => exact ⟨d + 7, by omega, by omega, rfl⟩
          case measure => simp [intOf]; omega
    · go_wp2_with (go_at_call 7; refine (awake_any _).mono ?_; rintro e w' ⟨rfl, hb⟩)
      go_ret
      exact ⟨rfl, hb⟩

theorem lifted (os : Os) (started : os.Started) (H : Type) (enc : TypeId × Value → H) :
    ReturnsInHanded {} Try.checked os 5 .any (Rows.gossipFreshSpec.pre6 enc Try.prog Try.f5 Rows.gossipFreshRow.domain false) (Rows.gossipFreshSpec.post enc Try.prog Try.f5 false true false false) := by
  refine law_lifted (C := Try.checked) (tb := 4) Try.own started (by kernel_rfl) Try.func5 Try.laidOut (by kernel_rfl) rfl Try.underlying4 rfl
    (fun ds hds => by match ds, hds with | [_, _, _, _], _ => rfl)
    (ChangeSpec.witness6 (enc := enc) (C := Try.checked) false ⟨#[], #[.int .i64 0, .int .i64 0, .int .i64 0, .int .i64 0], []⟩ 8 (by kernel_rfl) (by kernel_rfl) (by kernel_rfl) (by kernel_rfl)) ?_
  intro W base args ds p hval0 hA0 _
  have hval : ∀ (j : Nat) t v, Try.f5.params[j]? = some t → args[j]? = some v → Value.okWide Try.prog W .any base t v := hval0
  have hA : DataW.TrodAll enc Try.prog W 0 (fun _ => true) true Try.f5.params.toList args.toList ds p := hA0
  rw [Try.params5] at hA hval
  obtain ⟨v0, vs0, d0, ds0, p0, q0, hargs, rfl, rfl, h0, r0⟩ := trodAll_cons hA
  obtain ⟨v1, vs1, d1, ds1, p1, q1, rfl, rfl, rfl, h1, r1⟩ := trodAll_cons r0
  obtain ⟨v2, vs2, d2, ds2, p2, q2, rfl, rfl, rfl, h2, r2⟩ := trodAll_cons r1
  obtain ⟨v3, vs3, d3, ds3, p3, q3, rfl, rfl, rfl, h3, r3⟩ := trodAll_cons r2
  obtain ⟨rfl, rfl, rfl⟩ := trodAll_nil r3
  obtain rfl : args = #[v0, v1, v2, v3] := by cases args; simp_all
  obtain ⟨a0, rfl, rfl, rfl, w0⟩ := open_int Try.underlying2 (hval 0 _ v0 rfl rfl) h0
  obtain ⟨a1, rfl, rfl, rfl, w1⟩ := open_int Try.underlying2 (hval 1 _ v1 rfl rfl) h1
  obtain ⟨a2, rfl, rfl, rfl, w2⟩ := open_int Try.underlying2 (hval 2 _ v2 rfl rfl) h2
  obtain ⟨a3, rfl, rfl, rfl, w3⟩ := open_int Try.underlying2 (hval 3 _ v3 rfl rfl) h3
  exact walk a0 a1 a2 a3 W

theorem proved : Rows.GossipFreshSaid :=
  OpenClaim.holds_of_wide 5 Try.f5 rfl rfl rfl rfl rfl rfl rfl ⟨rfl, rfl, rfl, rfl, rfl⟩ rfl rfl rfl rfl rfl (by kernel_rfl) Try.func5 (by kernel_rfl)
    (of_decide_eq_true (by kernel_rfl)) (by unfold Func.isWrapper; rw [if_neg (by decide +kernel)]; exact ⟨rfl, rfl⟩)
    (fun os started H enc _ => lifted os started H enc)
#print axioms proved
end gossipFresh
end Go.Proofs.Ytphilonmniidmaa
