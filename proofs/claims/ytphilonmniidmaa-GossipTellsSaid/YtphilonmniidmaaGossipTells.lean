/-
  The statement GossipTells: for every input the law returns true.
-/
import Derived.Test.YtphilonmniidmaaGossipAwake
import Derived.Test.YtphilonmniidmaaTell
set_option linter.unusedVariables false
namespace Go.Proofs.Ytphilonmniidmaa.gossipTells
open Go.ChangeShapes Go.WideShapes Go.ChangeAt Go.RowKit

/-- What the loop has seen after some entries. -/
def anyB (es : List Ent) : Bool := es.any (·.has)
def isB (n : Int) (es : List Ent) : Bool := es.any fun e => e.has && e.node == n

theorem anyB_snoc (es : List Ent) (e : Ent) : anyB (es ++ [e]) = (anyB es || e.has) := by simp [anyB]
theorem isB_snoc (n : Int) (es : List Ent) (e : Ent) : isB n (es ++ [e]) = (isB n es || (e.has && e.node == n)) := by simp [isB]

theorem anyB_tracked (es : List Ent) (after : Int) : nextB (tracked es) after = anyB es := by
  rw [nextB_eq]
  unfold tracked anyB
  induction es with
  | nil => rfl
  | cons e es ih => cases h : e.has <;> simp [h] at ih ⊢; exact ih

theorem isB_tracked (es : List Ent) (after : Int) (h : anyB es = true) : isB (nextN (tracked es) after) es = true := by
  have hne : tracked es ≠ [] := by
    intro e
    have := anyB_tracked es after
    rw [e, h] at this
    cases this
  have hm := nextN_mem (tracked es) after hne
  generalize nextN (tracked es) after = n at *
  unfold tracked at hm
  obtain ⟨e, he, hn⟩ := List.mem_map.1 hm
  obtain ⟨he, hh⟩ := List.mem_filter.1 he
  unfold isB
  rw [List.any_eq_true]
  exact ⟨e, he, by simp [hh, hn]⟩

theorem nextN_none (es : List Ent) (after : Int) (h : anyB es = false) : nextN (tracked es) after = 0 := by
  have : tracked es = [] := by
    have := anyB_tracked es after
    rw [nextB_eq, h] at this
    cases ht : tracked es with
    | nil => rfl
    | cons a l => rw [ht] at this; simp at this
  rw [this, nextN_nil]

set_option maxHeartbeats 1000000 in
theorem walk (a : Option Addr) (cap : Nat) (es : List Ent) (after : Int) (w : World)
    (hm : es.length * 80 ≤ 140737488351232) (hs : Seg w w.heap.size a (es.length * 10) (ents es)) :
    Calls Try.prog 4 #[.slice a es.length cap, .int .i64 after] w fun e w' => e = .returned (.bool true) ∧ Below w.heap.size w w' := by
  have hT := tell_any a cap es after w hm hs
  have HT := Lib.hid hT
  clear hT
  have hn := nextN_none es after
  have hi := isB_tracked es after
  have ha := anyB_tracked es after
  generalize nextN (tracked es) after = n at *
  generalize nextB (tracked es) after = ok at *
  have HN := Lib.hid hn
  have HI := Lib.hid hi
  have HA := Lib.hid ha
  clear hn hi ha
  generalize hL : es.length = len at *
  have HL := Lib.hid hL
  clear hL
  have HS := Lib.hid hs
  clear hs
  by_cases h60 : 60 < len
  · go_enter Try.func4, Try.ntmps4
    go_wp2_with (go_at_call 7; refine (awake_any _).mono ?_; rintro e w' ⟨rfl, hb⟩)
    go_ret
    exact ⟨rfl, hb⟩
  · go_enter Try.func4, Try.ntmps4
    go_wp2_with fail
    refine HT.out.mono ?_
    rintro e w1 ⟨rfl, hb1⟩
    go_wp2_with fail
    go_loopw [7, 8, 10, 23] (fun v7 v8 _ i wr => ∃ k : Nat, ∃ an is : Bool, k ≤ len ∧ i = .int .i64 k ∧ v7 = .bool an ∧ v8 = .bool is ∧ Hid (an = anyB (es.take k) ∧ is = isB n (es.take k)) ∧ Below w.heap.size w wr) (fun _ _ _ i _ => len - (intOf i).toNat)
    case atStart => exact ⟨0, false, false, Nat.zero_le _, rfl, rfl, rfl, ⟨rfl, rfl⟩, hb1⟩
    case round =>
      obtain ⟨k, an, is, hk, rfl, rfl, rfl, hrel, hbel⟩ := hrel
      by_cases hlt : k < len
      · have hts := take_snoc_e es k (by rw [HL.out]; exact hlt)
        have hseg : Seg wr w.heap.size a (es.length * 10) (ents es) := by rw [HL.out]; exact HS.out.below hbel
        obtain ⟨x, rfl, hb, c0, c1, c2, c3, c4, c5, c6, c7, c8, c9⟩ := ents_cells hseg k (by rw [HL.out]; exact hlt) _ rfl
        clear hseg
        have h1 := anyB_snoc (es.take k) (es.getD k Ent.zero)
        have h2 := isB_snoc n (es.take k) (es.getD k Ent.zero)
        rw [← hts] at h1 h2
        rw [← hrel.out.1] at h1
        rw [← hrel.out.2] at h2
        clear hts hrel
        generalize es.getD k Ent.zero = e at *
        have H12 := Lib.hid (And.intro h1 h2)
        clear h1 h2
        obtain ⟨node, boot, heard, has, cx, cy, pa, pb, pd, stamp⟩ := e
        have hsz := hbel.size
        simp only at c0 c1 c2 c3 c4 c5 c6 c7 c8 c9 H12
        cases an <;> cases is <;> cases has
        all_goals
          go_wp2_with fail
          go_roundw
          case rel => exact ⟨k + 1, _, _, by omega, by go_num, rfl, rfl, ⟨by rw [H12.out.1]; rfl, by rw [H12.out.2]; rfl⟩, hbel.alloc hbel.size _⟩
          case measure => simp [intOf]; omega
      · obtain rfl : k = len := by omega
        have htk : es.take k = es := List.take_of_length_le (by rw [HL.out]; exact Nat.le_refl _)
        rw [htk] at hrel
        obtain ⟨e1, e2⟩ := hrel.out
        have hok : ok = an := by rw [HA.out, e1]
        subst hok
        have hsz := hbel.size
        cases ok
        · have hn0 : (n == 0) = true := by rw [HN.out e1.symm]; rfl
          clear hrel e1 e2 htk HN HI HA HT HS
          cases is
          all_goals
            go_wp2_with (go_at_call 7; refine (awake_any _).mono ?_; rintro e w' ⟨rfl, hb⟩)
            go_ret
            exact ⟨rfl, hbel.trans (hb.mono hsz)⟩
        · have his : is = true := by rw [e2]; exact HI.out e1.symm
          subst his
          clear hrel e1 e2 htk HN HI HA HT HS
          go_wp2_with (go_at_call 7; refine (awake_any _).mono ?_; rintro e w' ⟨rfl, hb⟩)
          go_ret
          exact ⟨rfl, hbel.trans (hb.mono hsz)⟩

theorem lifted (os : Os) (started : os.Started) (H : Type) (enc : TypeId × Value → H) :
    ReturnsInHanded {} Try.checked os 4 .any (Rows.gossipTellsSpec.pre6 enc Try.prog Try.f4 Rows.gossipTellsRow.domain false) (Rows.gossipTellsSpec.post enc Try.prog Try.f4 false true false false) := by
  refine law_lifted (C := Try.checked) (tb := 4) Try.own started (by kernel_rfl) Try.func4 Try.laidOut (by kernel_rfl) rfl Try.underlying4 rfl
    (fun ds hds => by match ds, hds with | [_, _], _ => rfl)
    (ChangeSpec.witness6 (enc := enc) (C := Try.checked) false ⟨#[], #[.slice none 0 0, .int .i64 0], []⟩ 8 (by kernel_rfl) (by kernel_rfl) (by kernel_rfl) (by kernel_rfl)) ?_
  intro W base args ds p hval0 hA0 hsz
  have hval : ∀ (j : Nat) t v, Try.f4.params[j]? = some t → args[j]? = some v → Value.okWide Try.prog W .any base t v := hval0
  have hA : DataW.TrodAll enc Try.prog W 0 (fun _ => true) true Try.f4.params.toList args.toList ds p := hA0
  have hsz : (DataW.weightsEach Try.prog Try.f4.params.toList ds).all (· ≤ reachBytes) = true := hsz
  rw [Try.params4] at hA hval hsz
  obtain ⟨v0, vs0, d0, ds0, p0, q0, hargs, rfl, rfl, h0, r0⟩ := trodAll_cons hA
  obtain ⟨v1, vs1, d1, ds1, p1, q1, rfl, rfl, rfl, h1, r1⟩ := trodAll_cons r0
  obtain ⟨rfl, rfl, rfl⟩ := trodAll_nil r1
  obtain rfl : args = #[v0, v1] := by cases args; simp_all
  obtain ⟨A, cap, es, rfl, hd, hs⟩ := open_ents h0 (okWide_slice Try.underlying28 (hval 0 _ v0 rfl rfl))
  obtain ⟨a1, rfl, rfl, rfl, w1⟩ := open_int Try.underlying3 (hval 1 _ v1 rfl rfl) h1
  have hm : es.length * 80 ≤ 140737488351232 := by
    rcases hd with ⟨rfl, _⟩ | ⟨el, sp, rfl, he⟩
    · simp
    · have := sized_slice hsz (j := 0) rfl rfl Try.underlying28
      rw [Try.bytesEntry] at this
      simp only [reachBytes] at this
      omega
  exact walk A cap es a1 W hm hs

theorem proved : Rows.GossipTellsSaid :=
  OpenClaim.holds_of_wide 4 Try.f4 rfl rfl rfl rfl rfl rfl rfl ⟨rfl, rfl, rfl, rfl, rfl⟩ rfl rfl rfl rfl rfl (by kernel_rfl) Try.func4 (by kernel_rfl)
    (of_decide_eq_true (by kernel_rfl)) (by unfold Func.isWrapper; rw [if_neg (by decide +kernel)]; exact ⟨rfl, rfl⟩)
    (fun os started H enc _ => lifted os started H enc)
#print axioms proved
end Go.Proofs.Ytphilonmniidmaa.gossipTells
