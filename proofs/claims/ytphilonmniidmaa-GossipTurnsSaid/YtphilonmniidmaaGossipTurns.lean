/-
  The statement GossipTurns: for every input the law returns true.
-/
import Derived.Test.YtphilonmniidmaaGossipAwake
import Derived.Test.YtphilonmniidmaaTurnsMap
set_option linter.unusedVariables false
namespace Go.Proofs.Ytphilonmniidmaa.gossipTurns
open Go.ChangeShapes Go.WideShapes Go.ChangeAt Go.RowKit Go.Maps

theorem lawI : Keyed Try.prog 3 := int_keyed Try.underlying3
theorem zeroI (w : World) : (zeroValue 3).run Try.prog w = .ok (.int .i64 0) w := by kernel_rfl
theorem wf_at {zs : List Int} (hwz : ∀ n ∈ zs, (Lit.int .i64 n).wf = true) (k : Nat) : (Lit.int .i64 (zs.getD k 0)).wf = true := by
  by_cases hk : k < zs.length
  · rw [List.getD, List.getElem?_eq_getElem hk]
    exact hwz _ (List.getElem_mem hk)
  · rw [List.getD, List.getElem?_eq_none (by omega)]
    decide

set_option maxRecDepth 100000 in
set_option maxHeartbeats 3200000 in
theorem walk (A : Option Addr) (cap : Nat) (zs : List Int) (after : Int) (w : World) (hm : zs.length ≤ 4611686018427387904) (hs : Seg w w.heap.size A zs.length (ints .i64 zs)) (hwz : ∀ n ∈ zs, (Lit.int .i64 n).wf = true) (hwa : (Lit.int .i64 after).wf = true) :
    Calls Try.prog 3 #[.slice A zs.length cap, .int .i64 after] w fun e w' => e = .returned (.bool true) ∧ Below w.heap.size w w' := by
  have hB : Below w.heap.size w w := Below.refl _ _
  have hmm := @run_makeMap Try.prog
  have HN : Hid (∀ (w' : World) (a : Int), Below w.heap.size w w' → Calls Try.prog 8 #[.slice A zs.length cap, .int .i64 a] w' fun e w'' => e = .returned (.tuple #[.int .i64 (nextN zs a), .bool (nextB zs a)]) ∧ w' = w'') :=
    fun w' a hb => next_any A cap zs _ a w' hm (hs.below hb)
  have HS := Lib.hid hs
  clear hs
  generalize hL : zs.length = len at *
  have HL := Lib.hid hL
  clear hL
  have HWZ := Lib.hid hwz
  clear hwz
  by_cases h40 : 40 < len
  · go_enter Try.func3, Try.ntmps3
    go_wp2_with (go_at_call 7; refine (awake_any _).mono ?_; rintro e w' ⟨rfl, hb⟩)
    go_ret
    exact ⟨rfl, hb⟩
  · go_enter Try.func3, Try.ntmps3
    go_wp2_with fail
    go_loopw [7, 21] (fun _ i wr => ∃ k : Nat, k ≤ len ∧ i = .int .i64 k ∧ wr.ownsMap Try.prog 3 (plainElem Try.prog 3) w.heap.size k (wantD (zs.take k)) ∧ Below w.heap.size w wr) (fun _ i _ => len - (intOf i).toNat)
    case atStart => exact ⟨0, Nat.zero_le _, rfl, World.ownsMap_made _ _ _ _, (by repeat (first | with_reducible exact hB | with_reducible exact Below.refl _ _ | with_reducible apply Below.drew | with_reducible apply below_drewN | with_reducible refine Below.alloc ?_ (by first | (simp; done) | (simp; omega) | omega) _ | with_reducible refine Below.setCell ?_ (by first | (simp; done) | (simp; omega) | omega) _))⟩
    case round =>
      obtain ⟨k, hk, rfl, hown, hB⟩ := hrel
      by_cases hlt : k < len
      · have hseg : Seg wr w.heap.size A len (ints .i64 zs) := HS.out.below hB
        obtain ⟨x, rfl, hxb, hc⟩ := hseg (by omega)
        have hcell : wr.cell? (x.add k) = some (.int .i64 (zs.getD k 0)) := hc k hlt
        have hkey : keyOf Try.prog 3 (.int .i64 (zs.getD k 0)) = some (.int .i64 (zs.getD k 0)) := keyOf_int_mk Try.underlying3 (wf_at HWZ.out k)
        have HT : Hid (wantD (zs.take (k + 1)) = (wantD (zs.take k)).put (ik (zs.getD k 0)) (.lit (.int .i64 1))) := by
          show _ = _
          rw [take_snoc zs k (by rw [HL.out]; exact hlt), wantD_snoc]
        clear hseg hc
        generalize zs.getD k 0 = z at *
        go_wp2_with (at_mapUpdate; refine wpList_mapUpdate_own _ rfl _ _ _ 24 rfl 3 3 lawI Try.underlying24 _ w.heap.size k _ rfl hown (by unfold maxLen; omega) _ _ _ rfl rfl hkey _ [] (plainElem_int Try.underlying3 (by decide)) ?_; intro w1 hown1 hgrow1)
        go_roundw
        case rel => exact ⟨k + 1, by omega, by go_num, by rw [HT.out]; exact hown1, hB.grown hgrow1 hB.size (fun j hj => by cases hj; exact Nat.le_refl _)⟩
        case measure => simp [intOf]; omega
      · obtain rfl : k = len := by omega
        have htk : zs.take k = zs := List.take_of_length_le (by rw [HL.out]; exact Nat.le_refl _)
        rw [htk] at hown
        clear htk hlt hk
        obtain ⟨wo, rfl⟩ : ∃ wo : World, wo = wr := ⟨_, rfl⟩
        obtain ⟨ks, hnd, hks, hkl⟩ := exists_nodup zs
        have HND := Lib.hid hnd
        have HKS := Lib.hid hks
        have hkl : ks.length ≤ 40 := by have := HL.out; omega
        clear hnd hks
        have e1 : (wo.alloc (.map #[] 0)).heap.size = wo.heap.size + 1 := by simp
        have hsz := hB.size
        have hbl := hown.lt
        go_wp2_with (at_range; refine wpList_range_own _ rfl _ 24 rfl 3 3 lawI Try.underlying24 _ w.heap.size k _ rfl (hown.alloc _) ?_; intro w0 hrg0 hg0 hs0)
        go_frame
        rw [e1] at hrg0 hs0 ⊢
        have hgot0 := (World.ownsMap_made (P := Try.prog) (k := 3) (R := plainElem (H := Unit) Try.prog 3) wo).kept hg0 (by simp)
        have hB0 : Below w.heap.size w w0 := (hB.alloc hsz _).grown hg0 (by simp; omega) (fun j hj => by cases hj)
        clear hown
        go_loopw [1, 9, 10] (fun v1 _ _ wx => ∃ (left : Lit → Bool) (cnt : Nat) (G : DataW Unit) (ph : Bool) (cur : Int), v1 = .int .i64 cur ∧ wx.ranges Try.prog 3 (plainElem Try.prog 3) w.heap.size (wo.heap.size + 1) k (wantD zs) left cnt ∧
            wx.ownsMap Try.prog 3 (plainElem Try.prog 3) wo.heap.size (ks.countP (vis after ph cur)) G ∧ Hid (Got G zs after ph cur) ∧ Hid (Turn zs ks after left ph cur) ∧ Below w.heap.size w wx) (fun _ _ _ wx => wx.rangeLeft w.heap.size (wo.heap.size + 1))
        case atStart =>
          exact ⟨_, _, .map [], false, after, rfl, hrg0, hgot0.mono (Nat.zero_le _), got_start zs after, turn_start zs ks after HKS.out, hB0⟩
        case round =>
          obtain ⟨left, cnt, G, ph, cur, rfl, hrg, hgot, hG, hT, hBx⟩ := hrel
          go_wp2_with (at_next; refine wpList_next_ranges_ii _ rfl _ rfl 3 3 .i64 .i64 lawI Try.underlying3 Try.underlying3 w.heap.size (wo.heap.size + 1) k _ _ _ rfl hrg ?_ ?_)
          · intro hc0 hl0
            have hall := turn_end HKS.out hT.out hl0
            have HALL := Lib.hid hall
            have hwant := hrg.owns
            have hgl := hgot.lt
            clear hall hl0 hc0 hrg hT
            obtain ⟨wp, rfl⟩ : ∃ wp : World, wp = wr := ⟨_, rfl⟩
            have hsp := hBx.size
            have hcount : ks.countP (vis after ph cur) ≤ ks.length := List.countP_le_length
            go_wp2_with (at_range; refine wpList_range_own _ rfl _ 24 rfl 3 3 lawI Try.underlying24 _ w.heap.size k _ rfl hwant ?_; intro w3 hrg3 hg3 hs3)
            go_frame
            have hgot3 := hgot.kept hg3 (by simp)
            have hB3 : Below w.heap.size w w3 := hBx.grown hg3 hBx.size (fun j hj => by cases hj)
            clear hwant hgot
            go_loopw [11] (fun _ wx => ∃ (left : Lit → Bool) (cnt : Nat), wx.ranges Try.prog 3 (plainElem Try.prog 3) w.heap.size wp.heap.size k (wantD zs) left cnt ∧
                wx.ownsMap Try.prog 3 (plainElem Try.prog 3) wo.heap.size (ks.countP (vis after ph cur)) G ∧ Below w.heap.size w wx) (fun _ wx => wx.rangeLeft w.heap.size wp.heap.size)
            case atStart => exact ⟨_, _, hrg3, hgot3, hB3⟩
            case round =>
              obtain ⟨left2, cnt2, hrg, hgot, hBy⟩ := hrel
              go_wp2_with (at_next; refine wpList_next_ranges_ii _ rfl _ rfl 3 3 .i64 .i64 lawI Try.underlying3 Try.underlying3 w.heap.size wp.heap.size k _ _ _ rfl hrg ?_ ?_)
              · intro _ _
                clear hrg
                have HZ : Hid (∀ w' : World, Calls Try.prog 8 #[.slice none 0 0, .int .i64 cur] w' fun e w'' => e = .returned (.tuple #[.int .i64 (nextN [] cur), .bool (nextB [] cur)]) ∧ w' = w'') :=
                  fun w' => next_any none 0 [] 0 cur w' (by decide) Seg.zero
                have hz0 : nextB [] cur = false := rfl
                rw [hz0] at HZ
                clear hz0
                go_wp2_with fail
                refine (HZ.out _).mono ?_
                rintro e w' ⟨rfl, rfl⟩
                go_wp2_with (go_at_call 7; refine (awake_any _).mono ?_; rintro e w9 ⟨rfl, hb9⟩)
                go_ret
                exact ⟨rfl, hBy.trans (hb9.mono hBy.size)⟩
              · intro x c w4 cnt4 hwx hwc hlx hat hrg4 hlt hg4 hs4 hen
                have hxz : x ∈ zs := by
                  have h1 : Maps.has (wantD zs) (ik x) = true := has_true_of_atKey (y := .lit (.int .i64 c)) (fun z => hat z)
                  rw [wantD_has] at h1
                  simpa using h1
                have hgx := hG.out x
                rw [HALL.out x hxz] at hgx
                have hgot4 := hgot.kept hg4 (fun e => by have := Option.some.inj e; omega)
                have HLE := Lib.hid hrg.left_eq
                obtain ⟨c2, hrun2, hat2, _⟩ := hgot4.lookup_int lawI Try.underlying24 Try.underlying3 (zeroI _) (keyOf_int_mk Try.underlying3 hwx)
                obtain rfl : c2 = 1 := by
                  have h := hat2.symm.trans hgx
                  injection h with h
                  injection h
                clear hat hat2 hgx hrg hgot
                go_wp2_with fail
                go_roundw
                case rel => exact ⟨_, cnt4, hrg4, hgot4, hBy.grown hg4 hBy.size (fun j hj => by cases hj; omega)⟩
                case measure => rw [hrg4.left_eq, HLE.out]; exact hlt
          · intro x c w1 cnt1 hwx hwc hlx hat hrg1 hlt hg1 hs1 hen
            have hxz : x ∈ zs := by
              have h1 : Maps.has (wantD zs) (ik x) = true := has_true_of_atKey (y := .lit (.int .i64 c)) (fun z => hat z)
              rw [wantD_has] at h1
              simpa using h1
            obtain ⟨t1, t2, t3, ph', t4, t5, t6⟩ := turn_step HND.out HKS.out hT.out hxz hlx
            obtain ⟨g1, g2⟩ := got_step hG.out hgot.isMap t1 t2 t4
            have hwant := wantD_at zs (nextN zs cur) t1 (.lit (.int .i64 0))
            have hgat := hG.out (nextN zs cur)
            rw [g1] at hgat
            have hwn : (Lit.int .i64 (nextN zs cur)).wf = true := HWZ.out _ t1
            have hB1 : Below w.heap.size w w1 := hBx.grown hg1 hBx.size (fun j hj => by cases hj; have := hsz; omega)
            have hgot1 := hgot.kept hg1 (by simp)
            have HLE := Lib.hid hrg.left_eq
            have HT5 := Lib.hid t5
            have HG2 := Lib.hid g2
            have HT6 := Lib.hid t6
            have HWANT := Lib.hid hwant
            have HGAT := Lib.hid hgat
            have HT3 := Lib.hid t3
            clear t1 t2 t3 t4 t5 t6 g1 g2 hwant hgat hat hG hT hgot hrg hxz hlx hen
            have HNX := Lib.hid (HN.out w1 cur hB1)
            rw [HT3.out] at HNX
            generalize nextN zs cur = n at *
            have hcount : ks.countP (vis after ph cur) ≤ ks.length := List.countP_le_length
            go_wp2_with fail
            refine HNX.out.mono ?_
            rintro e w' ⟨rfl, rfl⟩
            obtain ⟨c1, hrun1, hat1, _⟩ := hrg1.owns.lookup_int lawI Try.underlying24 Try.underlying3 (zeroI _) (keyOf_int_mk Try.underlying3 hwn)
            obtain rfl : c1 = 1 := by
              have h := hat1.symm.trans HWANT.out
              injection h with h
              injection h
            obtain ⟨c2, hrun2, hat2, _⟩ := hgot1.lookup_int lawI Try.underlying24 Try.underlying3 (zeroI _) (keyOf_int_mk Try.underlying3 hwn)
            obtain rfl : c2 = 0 := by
              have h := hat2.symm.trans HGAT.out
              injection h with h
              injection h
            clear hat1 hat2 HWANT HGAT
            go_wp2_with (at_mapUpdate; refine wpList_mapUpdate_own _ rfl _ _ _ 24 rfl 3 3 lawI Try.underlying24 _ wo.heap.size _ _ rfl hgot1 (by unfold maxLen; omega) _ _ _ rfl rfl (keyOf_int_mk Try.underlying3 hwn) _ [] (plainElem_int Try.underlying3 (by decide)) ?_; intro w2 hgot2 hg2; go_frame)
            have hrg2 := hrg1.kept hg2 (fun e => by have := Option.some.inj e; omega) (fun e => by have := Option.some.inj e; omega)
            go_roundw
            case rel => exact ⟨_, cnt1, _, ph', n, rfl, hrg2, hgot2.mono (by rw [HT6.out]; exact Nat.le_refl _), HG2.out, HT5.out, hB1.grown hg2 (by have := hB1.size; omega) (fun j hj => by cases hj; exact hsz)⟩
            case measure => rw [hrg2.left_eq, HLE.out]; exact hlt

set_option maxRecDepth 100000 in
theorem lifted (os : Os) (started : os.Started) (H : Type) (enc : TypeId × Value → H) :
    ReturnsInHanded {} Try.checked os 3 .any (Rows.gossipTurnsSpec.pre6 enc Try.prog Try.f3 Rows.gossipTurnsRow.domain false) (Rows.gossipTurnsSpec.post enc Try.prog Try.f3 false true false false) := by
  refine law_lifted (C := Try.checked) (tb := 4) Try.own started (by kernel_rfl) Try.func3 Try.laidOut (by kernel_rfl) rfl Try.underlying4 rfl
    (fun ds hds => by match ds, hds with | [_, _], _ => rfl)
    (ChangeSpec.witness6 (enc := enc) (C := Try.checked) false ⟨#[], #[.slice none 0 0, .int .i64 0], []⟩ 8 (by kernel_rfl) (by kernel_rfl) (by kernel_rfl) (by kernel_rfl)) ?_
  intro W base args ds p hval0 hA0 hsz0
  have hval : ∀ (j : Nat) t v, Try.f3.params[j]? = some t → args[j]? = some v → Value.okWide Try.prog W .any base t v := hval0
  have hA : DataW.TrodAll enc Try.prog W 0 (fun _ => true) true Try.f3.params.toList args.toList ds p := hA0
  have hsz : (DataW.weightsEach Try.prog Try.f3.params.toList ds).all (· ≤ reachBytes) = true := hsz0
  rw [Try.params3] at hA hval hsz
  obtain ⟨v0, vs0, d0, ds0, p0, q0, hargs, rfl, rfl, h0, r0⟩ := trodAll_cons hA
  obtain ⟨v1, vs1, d1, ds1, p1, q1, rfl, rfl, rfl, h1, r1⟩ := trodAll_cons r0
  obtain ⟨rfl, rfl, rfl⟩ := trodAll_nil r1
  obtain rfl : args = #[v0, v1] := by cases args; simp_all
  obtain ⟨a1, rfl, rfl, rfl, w1⟩ := open_int Try.underlying3 (hval 1 _ v1 rfl rfl) h1
  obtain ⟨A, cap, zs, rfl, hzl, hzs, hwz⟩ := open_intsl Try.underlying22 Try.underlying3 (by kernel_rfl) h0 (okWide_slice Try.underlying22 (hval 0 _ v0 rfl rfl))
  have hz : zs.length ≤ 4611686018427387904 := by
    rcases hzl with ⟨rfl, _⟩ | ⟨el, sp, rfl, he⟩
    · simp
    · have := sized_slice hsz (j := 0) rfl rfl Try.underlying22
      rw [Try.bytesInt] at this
      simp only [reachBytes] at this
      omega
  exact walk A cap zs a1 W hz hzs hwz w1

theorem proved : Rows.GossipTurnsSaid :=
  OpenClaim.holds_of_wide 3 Try.f3 rfl rfl rfl rfl rfl rfl rfl ⟨rfl, rfl, rfl, rfl, rfl⟩ rfl rfl rfl rfl rfl (by kernel_rfl) Try.func3 (by kernel_rfl)
    (of_decide_eq_true (by kernel_rfl)) (by unfold Func.isWrapper; rw [if_neg (by decide +kernel)]; exact ⟨rfl, rfl⟩)
    (fun os started H enc _ => lifted os started H enc)
#print axioms proved

end Go.Proofs.Ytphilonmniidmaa.gossipTurns
