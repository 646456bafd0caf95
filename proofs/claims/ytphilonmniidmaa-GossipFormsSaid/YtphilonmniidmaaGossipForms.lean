/-
  The statement GossipForms: for every input the law returns true.
-/
import Derived.Test.YtphilonmniidmaaGossipAwake
import Derived.Test.YtphilonmniidmaaTell
set_option linter.unusedVariables false
namespace Go.Proofs.Ytphilonmniidmaa.gossipForms
open Go.ChangeShapes Go.WideShapes Go.ChangeAt Go.RowKit

set_option maxHeartbeats 1000000 in
theorem walk (a : Option Addr) (cap : Nat) (zs : List Int) (b : Option Addr) (cap' : Nat) (es : List Ent) (after st nw sl sk : Int) (w : World)
    (hz : zs.length ≤ 4611686018427387904) (hs : Seg w w.heap.size a zs.length (ints .i64 zs))
    (hm : es.length * 80 ≤ 140737488351232) (hs' : Seg w w.heap.size b (es.length * 10) (ents es)) :
    Calls Try.prog 6 #[.slice a zs.length cap, .slice b es.length cap', .int .i64 after, .int .i64 st, .int .i64 nw, .int .i64 sl, .int .i64 sk] w fun e w' => e = .returned (.bool true) ∧ Below w.heap.size w w' := by
  have H1 := Lib.hid (next_any a cap zs _ after w hz hs)
  have H2 := Lib.hid (rnext_any a cap zs _ after w hz hs)
  have H3 := Lib.hid (tell_any b cap' es after w hm hs')
  have H4 : Hid (∀ w', Below w.heap.size w w' → Calls Try.prog 12 #[.slice b es.length cap', .int .i64 after] w' fun e w'' => e = .returned (.tuple #[.int .i64 (nextN (tracked es) after), .bool (nextB (tracked es) after)]) ∧ Below w'.heap.size w' w'') :=
    fun w' hb => rtell_any b cap' es after w' hm ((hs'.below hb).more hb.size)
  clear hs hs' hm hz
  generalize nextN zs after = n1 at *
  generalize nextB zs after = b1 at *
  generalize nextN (tracked es) after = n2 at *
  generalize nextB (tracked es) after = b2 at *
  generalize zs.length = l1 at *
  generalize es.length = l2 at *
  have q1 : (n1 == n1) = true := by simp
  have q2 : (b1 == b1) = true := by simp
  have q3 : (n2 == n2) = true := by simp
  have q4 : (b2 == b2) = true := by simp
  have q5 : (fr st nw sl sk == fr st nw sl sk) = true := by simp
  go_enter Try.func6, Try.ntmps6
  go_wp2_with fail
  refine H1.out.mono ?_
  rintro e w' ⟨rfl, rfl⟩
  go_wp2_with fail
  refine H2.out.mono ?_
  rintro e w' ⟨rfl, rfl⟩
  go_wp2_with fail
  refine H3.out.mono ?_
  rintro e w1 ⟨rfl, hb1⟩
  go_wp2_with fail
  refine (H4.out _ hb1).mono ?_
  rintro e w2 ⟨rfl, hb2⟩
  have hb := hb1.trans (hb2.mono hb1.size)
  go_wp2_with (first | (go_at_call 10; refine (fresh_any _ _ _ _ _).mono ?_; rintro e w' ⟨rfl, rfl⟩) | (go_at_call 13; refine (rfresh_any _ _ _ _ _).mono ?_; rintro e w' ⟨rfl, rfl⟩) | (go_at_call 7; refine (awake_any _).mono ?_; rintro e w3 ⟨rfl, hb3⟩))
  go_ret
  exact ⟨rfl, hb.trans (hb3.mono hb.size)⟩

theorem lifted (os : Os) (started : os.Started) (H : Type) (enc : TypeId × Value → H) :
    ReturnsInHanded {} Try.checked os 6 .any (Rows.gossipFormsSpec.pre6 enc Try.prog Try.f6 Rows.gossipFormsRow.domain false) (Rows.gossipFormsSpec.post enc Try.prog Try.f6 false true false false) := by
  refine law_lifted (C := Try.checked) (tb := 4) Try.own started (by kernel_rfl) Try.func6 Try.laidOut (by kernel_rfl) rfl Try.underlying4 rfl
    (fun ds hds => by match ds, hds with | [_, _, _, _, _, _, _], _ => rfl)
    (ChangeSpec.witness6 (enc := enc) (C := Try.checked) false ⟨#[], #[.slice none 0 0, .slice none 0 0, .int .i64 0, .int .i64 0, .int .i64 0, .int .i64 0, .int .i64 0], []⟩ 8 (by kernel_rfl) (by kernel_rfl) (by kernel_rfl) (by kernel_rfl)) ?_
  intro W base args ds p hval0 hA0 hsz
  have hval : ∀ (j : Nat) t v, Try.f6.params[j]? = some t → args[j]? = some v → Value.okWide Try.prog W .any base t v := hval0
  have hA : DataW.TrodAll enc Try.prog W 0 (fun _ => true) true Try.f6.params.toList args.toList ds p := hA0
  have hsz : (DataW.weightsEach Try.prog Try.f6.params.toList ds).all (· ≤ reachBytes) = true := hsz
  rw [Try.params6] at hA hval hsz
  obtain ⟨v0, vs0, d0, ds0, p0, q0, hargs, rfl, rfl, h0, r0⟩ := trodAll_cons hA
  obtain ⟨v1, vs1, d1, ds1, p1, q1, rfl, rfl, rfl, h1, r1⟩ := trodAll_cons r0
  obtain ⟨v2, vs2, d2, ds2, p2, q2, rfl, rfl, rfl, h2, r2⟩ := trodAll_cons r1
  obtain ⟨v3, vs3, d3, ds3, p3, q3, rfl, rfl, rfl, h3, r3⟩ := trodAll_cons r2
  obtain ⟨v4, vs4, d4, ds4, p4, q4, rfl, rfl, rfl, h4, r4⟩ := trodAll_cons r3
  obtain ⟨v5, vs5, d5, ds5, p5, q5, rfl, rfl, rfl, h5, r5⟩ := trodAll_cons r4
  obtain ⟨v6, vs6, d6, ds6, p6, q6, rfl, rfl, rfl, h6, r6⟩ := trodAll_cons r5
  obtain ⟨rfl, rfl, rfl⟩ := trodAll_nil r6
  obtain rfl : args = #[v0, v1, v2, v3, v4, v5, v6] := by cases args; simp_all
  obtain ⟨A, cap, zs, rfl, hzl, hzs, _⟩ := open_intsl Try.underlying22 Try.underlying3 (by kernel_rfl) h0 (okWide_slice Try.underlying22 (hval 0 _ v0 rfl rfl))
  obtain ⟨A', cap', es, rfl, hd, hs⟩ := open_ents h1 (okWide_slice Try.underlying28 (hval 1 _ v1 rfl rfl))
  obtain ⟨a2, rfl, rfl, rfl, w2⟩ := open_int Try.underlying3 (hval 2 _ v2 rfl rfl) h2
  obtain ⟨a3, rfl, rfl, rfl, w3⟩ := open_int Try.underlying2 (hval 3 _ v3 rfl rfl) h3
  obtain ⟨a4, rfl, rfl, rfl, w4⟩ := open_int Try.underlying2 (hval 4 _ v4 rfl rfl) h4
  obtain ⟨a5, rfl, rfl, rfl, w5⟩ := open_int Try.underlying2 (hval 5 _ v5 rfl rfl) h5
  obtain ⟨a6, rfl, rfl, rfl, w6⟩ := open_int Try.underlying2 (hval 6 _ v6 rfl rfl) h6
  have hm : es.length * 80 ≤ 140737488351232 := by
    rcases hd with ⟨rfl, _⟩ | ⟨el, sp, rfl, he⟩
    · simp
    · have := sized_slice hsz (j := 1) rfl rfl Try.underlying28
      rw [Try.bytesEntry] at this
      simp only [reachBytes] at this
      omega
  have hz : zs.length ≤ 4611686018427387904 := by
    rcases hzl with ⟨rfl, _⟩ | ⟨el, sp, rfl, he⟩
    · simp
    · have := sized_slice hsz (j := 0) rfl rfl Try.underlying22
      rw [Try.bytesInt] at this
      simp only [reachBytes] at this
      omega
  exact walk A cap zs A' cap' es a2 a3 a4 a5 a6 W hz hzs hm hs

theorem proved : Rows.GossipFormsSaid :=
  OpenClaim.holds_of_wide 6 Try.f6 rfl rfl rfl rfl rfl rfl rfl ⟨rfl, rfl, rfl, rfl, rfl⟩ rfl rfl rfl rfl rfl (by kernel_rfl) Try.func6 (by kernel_rfl)
    (of_decide_eq_true (by kernel_rfl)) (by unfold Func.isWrapper; rw [if_neg (by decide +kernel)]; exact ⟨rfl, rfl⟩)
    (fun os started H enc _ => lifted os started H enc)
#print axioms proved
end Go.Proofs.Ytphilonmniidmaa.gossipForms
