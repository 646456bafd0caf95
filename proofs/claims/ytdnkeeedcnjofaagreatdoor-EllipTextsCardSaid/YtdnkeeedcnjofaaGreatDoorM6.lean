import Derived.Test.YtdnkeeedcnjofaaGreatDoorM5

/-
  strconv.ParseInt, ellip.numbers and ellip.Parse at texts that Text does not write.
-/
set_option linter.unusedVariables false
set_option linter.unusedSimpArgs false
namespace Go.Proofs.YtdnkeeedcnjofaaGreatDoor
open Go Go.RowKit Sx

/-- The variables that hold strconv's errors. -/
structure ErOK (W : World) : Prop where
  syn : ∃ ev, W.cell? ⟨2, 0, none⟩ = some ev ∧ (ev = .nilIface ∨ ∃ te pe, ev = .iface te pe)
  ran : ∃ ev, W.cell? ⟨3, 0, none⟩ = some ev ∧ (ev = .nilIface ∨ ∃ te pe, ev = .iface te pe)
theorem ErOK.kept {W w : World} (h : ErOK W) (hk : Kept W w) : ErOK w := ⟨by
  obtain ⟨ev, hv, he⟩ := h.syn
  exact ⟨ev, hk.cell hv, he⟩, by
  obtain ⟨ev, hv, he⟩ := h.ran
  exact ⟨ev, hk.cell hv, he⟩⟩
abbrev errV (N : Nat) : Value := .iface 97 (.pointer (some ⟨N, 0, none⟩))
/-- What ParseInt answers at a text that is no numeral as Text writes them. -/
def BadR (s : ByteArray) (v : Value) : Prop := (∃ n : Int, Fits n ∧ numB n ≠ s ∧ v = .tuple #[.int .i64 n, .nilIface]) ∨ ∃ (n : Int) (N : Nat), v = .tuple #[.int .i64 n, errV N]
theorem cParseBad (W : World) (hE : ErOK W) (s : ByteArray) (hs : s.size ≤ 1000) (hb : ∀ n, Fits n → numB n ≠ s) (i : Nat) (h : List (Option Chunk)) (hi : h[i]? = some (some (oldC W))) :
    CallAll Tryz.prog 24 [.string s, .int .i64 10, .int .i64 64] h (fun v ms => BadR s v ∧ ms = []) :=
  call_oldA i W hi rfl (Tryz.call24) fun w hk => by
    cases hp : Lib.parseIntB 64 s.data.toList
    · rename_i n
      have hf : Fits n := by
        have := Lib.parseIntB_bounds hp
        exact ⟨by have := this.1; omega, by have := this.2; omega⟩
      refine (Tryz.strconv_ParseInt_10_at64_ok s (by omega) n hp w).mono ?_
      rintro e w' ⟨he, hw⟩
      refine ⟨_, .inl ⟨n, hf, hb n hf, rfl⟩, rfl, he, ?_⟩
      rcases hw with rfl | ⟨t, rfl⟩
      · exact Below.refl _ _
      · exact Joins.below_bytesWorld _ w _ t (Nat.le_refl _)
    · obtain ⟨ev, hv, hev⟩ := (hE.kept hk).syn
      refine (Tryz.strconv_ParseInt_10_at64_syntax s (by omega) (hp.trans rfl) ev w hv hev).mono ?_
      rintro e w' ⟨N, he, _, _, hbel⟩
      exact ⟨_, .inr ⟨_, N, rfl⟩, rfl, he, hbel⟩
    · obtain ⟨ev, hv, hev⟩ := (hE.kept hk).ran
      refine (Tryz.strconv_ParseInt_10_at64_range s (by omega) hp ev w hv hev).mono ?_
      rintro e w' ⟨N, he, _, _, hbel⟩
      exact ⟨_, .inr ⟨_, N, rfl⟩, rfl, he, hbel⟩
theorem err_is (x : Operand) (N : Nat) : BinIs Tryz.prog .neq 55 x (.const .nilIface) (errV N) .nilIface (.bool true) := ⟨rfl, rfl, rfl, fun w => by go_simp⟩
theorem str_other (x y : Operand) (a b : ByteArray) (h : a ≠ b) : BinIs Tryz.prog .neq 9 x y (.string a) (.string b) (.bool true) := ⟨rfl, rfl, rfl, fun w => by go_simp; rw [ByteArray.toList_eq, ByteArray.toList_eq]; exact fun e => h (ByteArray.ext (Array.toList_inj.1 e))⟩
theorem wk_err {i : Nat} (e : Nat) : plain3 (errV e) = true := rfl
theorem ba_list {a b : ByteArray} (h : a.data.toList = b.data.toList) : a = b := ByteArray.ext (Array.toList_inj.1 h)
theorem mk_list (l : List UInt8) : (ByteArray.mk l.toArray).data.toList = l := rfl
set_option maxRecDepth 100000 in
set_option maxHeartbeats 2000000 in
theorem cNumbersBad2 (W : World) (hW : TxOK W) (hE : ErOK W) (s : ByteArray) (hs0 : s.size ≤ 1000) (hb : ¬ ∃ x y, Fits x ∧ Fits y ∧ s = headB x y) (i : Nat) (h : List (Option Chunk)) (hi : h[i]? = some (some (oldC W))) :
    CallOK Tryz.prog 12 [.string s, .int .i64 2] h (.tuple #[.slice none 0 0, .bool false]) [] [i] := by
  refine call_old i W hi tysOK mixed Tryz.func12 (by rfl) hW.pos rfl rfl (Tryz.call12) fun w hk => ?_
  have hw := hW.kept hk
  have he := hE.kept hk
  have hs : s.size < 4294967281 := by omega
  by_cases h1 : Lib.countB s ⟨#[44]⟩ = 1
  · obtain ⟨la, lb, hl, ha4, hb4⟩ := Txt.split_two s.data.toList h1
    have h2 : Lib.splitB ⟨#[44]⟩ 0 1 s = [⟨la.toArray⟩, ⟨lb.toArray⟩] := Txt.splitB_of (ls := [la, lb]) (by
      show Lib.splitK [44] 0 1 s.data.toList = _
      rw [hl, Txt.splitK_at _ _ _ ha4]; rfl)
    have hz : s.size = la.length + lb.length + 1 := by
      have : s.size = s.data.toList.length := by rw [Array.length_toList]; rfl
      rw [this, hl, List.length_append, List.length_cons]; omega
    have sa : (ByteArray.mk la.toArray).size = la.length := by show la.toArray.size = _; simp
    have sb : (ByteArray.mk lb.toArray).size = lb.length := by show lb.toArray.size = _; simp
    have hj : ∀ x y, numB x = ⟨la.toArray⟩ → numB y = ⟨lb.toArray⟩ → s = headB x y := fun x y e1 e2 => ba_list (by
      rw [hl, headB_list, ← numB_list x, ← numB_list y, e1, e2])
    generalize ByteArray.mk la.toArray = a at *
    generalize ByteArray.mk lb.toArray = b at *
    by_cases hg0 : ∃ n, Fits n ∧ numB n = a
    · obtain ⟨v0, hv0, rfl⟩ := hg0
      repeat' (refine N.go ?_; first | with_reducible refine N.obl (by decide) ?_ | with_reducible refine N.obl (flat_wi _ _ _) ?_ | with_reducible refine N.obl (flat_lim _ _) ?_ | with_reducible refine N.eq ?_ | with_reducible refine N.obl rfl ?_ | with_reducible refine N.obl ⟨by kernel_rfl, by kernel_rfl⟩ ?_ | with_reducible refine N.alt ?_ | with_reducible refine N.forkT ?_ | with_reducible refine N.forkF ?_ | refine N.call (cSplit2 w hw s (numB v0) b hs h1 h2 0 1 _ (by rfl) (by rfl)) ?_ | refine N.call (cParse w hw v0 hv0 0 _ (by rfl)) ?_ | refine N.call (cFmt w hw v0 hv0 0 _ (by rfl)) ?_ | refine N.roll 3 ?_ | refine N.bin _ (nil_is _) ?_ | refine N.bin _ (str_same _ _ _) ?_ | refine N.idx 0 0 (by decide) (by decide) ?_ | refine N.idx 1 0 (by decide) (by decide) ?_ | refine N.forkNo (by decide) ?_ | refine N.forkYes (by decide) ?_ | fail_if_success skip)
      refine N.go ?_
      refine App0N.mkq (.agg ⟨[.int .i64 v0]⟩) (reads_int1 v0) (by decide) (by decide) (by decide) fun cpA hcA => ?_
      have hA : IntsIn (grown ⟨true, 0, []⟩ 0 1 Tryz.t2.size (.agg ⟨[.int .i64 v0]⟩) (.int .i64 0) cpA) [v0] cpA := ints_grown (l := []) v0 (fun j hj => absurd hj (Nat.not_lt_zero j)) rfl rfl hcA
      generalize grown ⟨true, 0, []⟩ 0 1 Tryz.t2.size (.agg ⟨[.int .i64 v0]⟩) (.int .i64 0) cpA = A at *
      have hbad : ∀ n, Fits n → numB n ≠ b := fun n hf hn => hb ⟨_, _, hv0, hf, hj _ _ rfl hn⟩
      repeat' (refine N.go ?_; first | with_reducible refine N.obl (by decide) ?_ | with_reducible refine N.obl (flat_wi _ _ _) ?_ | with_reducible refine N.obl (flat_lim _ _) ?_ | with_reducible refine N.eq ?_ | with_reducible refine N.obl rfl ?_ | with_reducible refine N.obl ⟨by kernel_rfl, by kernel_rfl⟩ ?_ | with_reducible refine N.alt ?_ | with_reducible refine N.forkT ?_ | with_reducible refine N.forkF ?_ | refine N.call (cSplit2 w hw s (numB v0) b hs h1 h2 0 1 _ (by rfl) (by rfl)) ?_ | refine N.call (cParse w hw v0 hv0 0 _ (by rfl)) ?_ | refine N.call (cFmt w hw v0 hv0 0 _ (by rfl)) ?_ | refine N.roll 3 ?_ | refine N.bin _ (nil_is _) ?_ | refine N.bin _ (str_same _ _ _) ?_ | refine N.idx 0 0 (by decide) (by decide) ?_ | refine N.idx 1 0 (by decide) (by decide) ?_ | refine N.forkNo (by decide) ?_ | refine N.forkYes (by decide) ?_ | fail_if_success skip)
      refine N.go ?_
      refine N.callAll (cParseBad w he b (by omega) hbad 0 _ (by rfl)) fun v ms hR => ?_
      obtain ⟨⟨n, hf, hne, rfl⟩ | ⟨n, e, rfl⟩, rfl⟩ := hR
      · repeat' (refine N.go ?_; first | with_reducible refine N.obl (by decide) ?_ | with_reducible refine N.obl (flat_wi _ _ _) ?_ | with_reducible refine N.obl (flat_lim _ _) ?_ | with_reducible refine N.eq ?_ | with_reducible refine N.obl rfl ?_ | with_reducible refine N.obl ⟨by kernel_rfl, by kernel_rfl⟩ ?_ | with_reducible refine N.alt ?_ | with_reducible refine N.forkT ?_ | with_reducible refine N.forkF ?_ | refine N.forkNo (by decide) ?_ | refine N.forkYes (by decide) ?_ | refine N.bin _ (nil_is _) ?_ | refine N.bin _ (err_is _ _) ?_ | refine N.bin _ (str_other _ _ _ _ hne) ?_ | refine N.call (cFmt w hw n hf 0 _ (by rfl)) ?_ | exact N.mk ⟨rfl, rfl⟩ | fail_if_success skip)
      · repeat' (refine N.go ?_; first | with_reducible refine N.obl (by decide) ?_ | with_reducible refine N.obl (flat_wi _ _ _) ?_ | with_reducible refine N.obl (flat_lim _ _) ?_ | with_reducible refine N.eq ?_ | with_reducible refine N.obl rfl ?_ | with_reducible refine N.obl ⟨by kernel_rfl, by kernel_rfl⟩ ?_ | with_reducible refine N.alt ?_ | with_reducible refine N.forkT ?_ | with_reducible refine N.forkF ?_ | refine N.forkNo (by decide) ?_ | refine N.forkYes (by decide) ?_ | refine N.bin _ (nil_is _) ?_ | refine N.bin _ (err_is _ _) ?_ | refine N.bin _ (str_other _ _ _ _ hne) ?_ | refine N.call (cFmt w hw n hf 0 _ (by rfl)) ?_ | exact N.mk ⟨rfl, rfl⟩ | fail_if_success skip)
    · have hbad : ∀ n, Fits n → numB n ≠ a := fun n hf hn => hg0 ⟨n, hf, hn⟩
      repeat' (refine N.go ?_; first | with_reducible refine N.obl (by decide) ?_ | with_reducible refine N.obl (flat_wi _ _ _) ?_ | with_reducible refine N.obl (flat_lim _ _) ?_ | with_reducible refine N.eq ?_ | with_reducible refine N.obl rfl ?_ | with_reducible refine N.obl ⟨by kernel_rfl, by kernel_rfl⟩ ?_ | with_reducible refine N.alt ?_ | with_reducible refine N.forkT ?_ | with_reducible refine N.forkF ?_ | refine N.call (cSplit2 w hw s a b hs h1 h2 0 1 _ (by rfl) (by rfl)) ?_ | refine N.roll 3 ?_ | refine N.bin _ (nil_is _) ?_ | refine N.bin _ (str_same _ _ _) ?_ | refine N.idx 0 0 (by decide) (by decide) ?_ | refine N.idx 1 0 (by decide) (by decide) ?_ | refine N.forkNo (by decide) ?_ | refine N.forkYes (by decide) ?_ | fail_if_success skip)
      refine N.go ?_
      refine N.callAll (cParseBad w he a (by omega) hbad 0 _ (by rfl)) fun v ms hR => ?_
      obtain ⟨⟨n, hf, hne, rfl⟩ | ⟨n, e, rfl⟩, rfl⟩ := hR
      · repeat' (refine N.go ?_; first | with_reducible refine N.obl (by decide) ?_ | with_reducible refine N.obl (flat_wi _ _ _) ?_ | with_reducible refine N.obl (flat_lim _ _) ?_ | with_reducible refine N.eq ?_ | with_reducible refine N.obl rfl ?_ | with_reducible refine N.obl ⟨by kernel_rfl, by kernel_rfl⟩ ?_ | with_reducible refine N.alt ?_ | with_reducible refine N.forkT ?_ | with_reducible refine N.forkF ?_ | refine N.forkNo (by decide) ?_ | refine N.forkYes (by decide) ?_ | refine N.bin _ (nil_is _) ?_ | refine N.bin _ (err_is _ _) ?_ | refine N.bin _ (str_other _ _ _ _ hne) ?_ | refine N.call (cFmt w hw n hf 0 _ (by rfl)) ?_ | exact N.mk ⟨rfl, rfl⟩ | fail_if_success skip)
      · repeat' (refine N.go ?_; first | with_reducible refine N.obl (by decide) ?_ | with_reducible refine N.obl (flat_wi _ _ _) ?_ | with_reducible refine N.obl (flat_lim _ _) ?_ | with_reducible refine N.eq ?_ | with_reducible refine N.obl rfl ?_ | with_reducible refine N.obl ⟨by kernel_rfl, by kernel_rfl⟩ ?_ | with_reducible refine N.alt ?_ | with_reducible refine N.forkT ?_ | with_reducible refine N.forkF ?_ | refine N.forkNo (by decide) ?_ | refine N.forkYes (by decide) ?_ | refine N.bin _ (nil_is _) ?_ | refine N.bin _ (err_is _ _) ?_ | refine N.bin _ (str_other _ _ _ _ hne) ?_ | refine N.call (cFmt w hw n hf 0 _ (by rfl)) ?_ | exact N.mk ⟨rfl, rfl⟩ | fail_if_success skip)
  · have hne : ((Lib.splitB ⟨#[44]⟩ 0 (Lib.countB s ⟨#[44]⟩) s).length) = Lib.countB s ⟨#[44]⟩ + 1 := Lib.splitB_all ⟨#[44]⟩ (by decide) 0 _ s rfl
    generalize hL : Lib.splitB ⟨#[44]⟩ 0 (Lib.countB s ⟨#[44]⟩) s = L at *
    repeat' (refine N.go ?_; first | with_reducible refine N.obl (by decide) ?_ | with_reducible refine N.obl (flat_wi _ _ _) ?_ | with_reducible refine N.obl (flat_lim _ _) ?_ | with_reducible refine N.eq ?_ | with_reducible refine N.obl rfl ?_ | with_reducible refine N.obl ⟨by kernel_rfl, by kernel_rfl⟩ ?_ | with_reducible refine N.alt ?_ | with_reducible refine N.forkT ?_ | with_reducible refine N.forkF ?_ | refine N.call (cSplit w hw s L hs hne.symm hL 0 1 _ (by rfl) (by rfl)) ?_ | refine N.forkYes (by rw [hne]; simp; first | omega | done | fail) ?_ | exact N.mk ⟨rfl, rfl⟩ | fail_if_success skip)
set_option maxRecDepth 100000 in
set_option maxHeartbeats 2000000 in
theorem cNumbersBad3 (W : World) (hW : TxOK W) (hE : ErOK W) (s : ByteArray) (hs0 : s.size ≤ 1000) (hb : ¬ ∃ x y z, Fits x ∧ Fits y ∧ Fits z ∧ s = tailB x y z) (i : Nat) (h : List (Option Chunk)) (hi : h[i]? = some (some (oldC W))) :
    CallOK Tryz.prog 12 [.string s, .int .i64 3] h (.tuple #[.slice none 0 0, .bool false]) [] [i] := by
  refine call_old i W hi tysOK mixed Tryz.func12 (by rfl) hW.pos rfl rfl (Tryz.call12) fun w hk => ?_
  have hw := hW.kept hk
  have he := hE.kept hk
  have hs : s.size < 4294967281 := by omega
  by_cases h1 : Lib.countB s ⟨#[44]⟩ = 2
  · obtain ⟨la, lb, ld, hl, ha4, hb4, hd4⟩ := Txt.split_three s.data.toList h1
    have h2 : Lib.splitB ⟨#[44]⟩ 0 2 s = [⟨la.toArray⟩, ⟨lb.toArray⟩, ⟨ld.toArray⟩] := Txt.splitB_of (ls := [la, lb, ld]) (by
      show Lib.splitK [44] 0 2 s.data.toList = _
      rw [hl, Txt.splitK_at _ _ _ ha4, Txt.splitK_at _ _ _ hb4]; rfl)
    have hz : s.size = la.length + lb.length + ld.length + 2 := by
      have : s.size = s.data.toList.length := by rw [Array.length_toList]; rfl
      rw [this, hl, List.length_append, List.length_cons, List.length_append, List.length_cons]; omega
    have sa : (ByteArray.mk la.toArray).size = la.length := by show la.toArray.size = _; simp
    have sb : (ByteArray.mk lb.toArray).size = lb.length := by show lb.toArray.size = _; simp
    have sd : (ByteArray.mk ld.toArray).size = ld.length := by show ld.toArray.size = _; simp
    have hj : ∀ x y z, numB x = ⟨la.toArray⟩ → numB y = ⟨lb.toArray⟩ → numB z = ⟨ld.toArray⟩ → s = tailB x y z := fun x y z e1 e2 e3 => ba_list (by
      rw [hl, tailB_list, ← numB_list x, ← numB_list y, ← numB_list z, e1, e2, e3])
    generalize ByteArray.mk la.toArray = a at *
    generalize ByteArray.mk lb.toArray = b at *
    generalize ByteArray.mk ld.toArray = d at *
    by_cases hg0 : ∃ n, Fits n ∧ numB n = a
    · obtain ⟨v0, hv0, rfl⟩ := hg0
      repeat' (refine N.go ?_; first | with_reducible refine N.obl (by decide) ?_ | with_reducible refine N.obl (flat_wi _ _ _) ?_ | with_reducible refine N.obl (flat_lim _ _) ?_ | with_reducible refine N.eq ?_ | with_reducible refine N.obl rfl ?_ | with_reducible refine N.obl ⟨by kernel_rfl, by kernel_rfl⟩ ?_ | with_reducible refine N.alt ?_ | with_reducible refine N.forkT ?_ | with_reducible refine N.forkF ?_ | refine N.call (cSplit3 w hw s (numB v0) b d hs h1 h2 0 1 _ (by rfl) (by rfl)) ?_ | refine N.call (cParse w hw v0 hv0 0 _ (by rfl)) ?_ | refine N.call (cFmt w hw v0 hv0 0 _ (by rfl)) ?_ | refine N.roll 4 ?_ | refine N.bin _ (nil_is _) ?_ | refine N.bin _ (str_same _ _ _) ?_ | refine N.idx 0 0 (by decide) (by decide) ?_ | refine N.idx 1 0 (by decide) (by decide) ?_ | refine N.idx 2 0 (by decide) (by decide) ?_ | refine N.forkNo (by decide) ?_ | refine N.forkYes (by decide) ?_ | fail_if_success skip)
      refine N.go ?_
      refine App0N.mkq (.agg ⟨[.int .i64 v0]⟩) (reads_int1 v0) (by decide) (by decide) (by decide) fun cpA hcA => ?_
      have hA : IntsIn (grown ⟨true, 0, []⟩ 0 1 Tryz.t2.size (.agg ⟨[.int .i64 v0]⟩) (.int .i64 0) cpA) [v0] cpA := ints_grown (l := []) v0 (fun j hj => absurd hj (Nat.not_lt_zero j)) rfl rfl hcA
      generalize grown ⟨true, 0, []⟩ 0 1 Tryz.t2.size (.agg ⟨[.int .i64 v0]⟩) (.int .i64 0) cpA = A at *
      by_cases hg1 : ∃ n, Fits n ∧ numB n = b
      · obtain ⟨v1, hv1, rfl⟩ := hg1
        repeat' (refine N.go ?_; first | with_reducible refine N.obl (by decide) ?_ | with_reducible refine N.obl (flat_wi _ _ _) ?_ | with_reducible refine N.obl (flat_lim _ _) ?_ | with_reducible refine N.eq ?_ | with_reducible refine N.obl rfl ?_ | with_reducible refine N.obl ⟨by kernel_rfl, by kernel_rfl⟩ ?_ | with_reducible refine N.alt ?_ | with_reducible refine N.forkT ?_ | with_reducible refine N.forkF ?_ | refine N.call (cSplit3 w hw s (numB v0) (numB v1) d hs h1 h2 0 1 _ (by rfl) (by rfl)) ?_ | refine N.call (cParse w hw v0 hv0 0 _ (by rfl)) ?_ | refine N.call (cParse w hw v1 hv1 0 _ (by rfl)) ?_ | refine N.call (cFmt w hw v0 hv0 0 _ (by rfl)) ?_ | refine N.call (cFmt w hw v1 hv1 0 _ (by rfl)) ?_ | refine N.roll 4 ?_ | refine N.bin _ (nil_is _) ?_ | refine N.bin _ (str_same _ _ _) ?_ | refine N.idx 0 0 (by decide) (by decide) ?_ | refine N.idx 1 0 (by decide) (by decide) ?_ | refine N.idx 2 0 (by decide) (by decide) ?_ | refine N.forkNo (by decide) ?_ | refine N.forkYes (by decide) ?_ | fail_if_success skip)
        refine N.go ?_
        refine AppN.mkq (.agg ⟨[.int .i64 v1]⟩) (reads_int1 v1) rfl (by rw [hA.n]; show 1 * 1 ≤ _; omega) (by decide) (by decide) (pushC A 1 v1) (fun h => writes_push v1 hA rfl rfl h) (fun hle => ?_) (fun hlt cpAo hcAo => ?_)
        · have hAi : IntsIn (pushC A 1 v1) [v0, v1] cpA := ints_push v1 hA rfl hle
          generalize pushC A 1 v1 = Ai at *
          have hbad : ∀ n, Fits n → numB n ≠ d := fun n hf hn => hb ⟨_, _, _, hv0, hv1, hf, hj _ _ _ rfl rfl hn⟩
          repeat' (refine N.go ?_; first | with_reducible refine N.obl (by decide) ?_ | with_reducible refine N.obl (flat_wi _ _ _) ?_ | with_reducible refine N.obl (flat_lim _ _) ?_ | with_reducible refine N.eq ?_ | with_reducible refine N.obl rfl ?_ | with_reducible refine N.obl ⟨by kernel_rfl, by kernel_rfl⟩ ?_ | with_reducible refine N.alt ?_ | with_reducible refine N.forkT ?_ | with_reducible refine N.forkF ?_ | refine N.call (cSplit3 w hw s (numB v0) (numB v1) d hs h1 h2 0 1 _ (by rfl) (by rfl)) ?_ | refine N.call (cParse w hw v0 hv0 0 _ (by rfl)) ?_ | refine N.call (cParse w hw v1 hv1 0 _ (by rfl)) ?_ | refine N.call (cFmt w hw v0 hv0 0 _ (by rfl)) ?_ | refine N.call (cFmt w hw v1 hv1 0 _ (by rfl)) ?_ | refine N.roll 4 ?_ | refine N.bin _ (nil_is _) ?_ | refine N.bin _ (str_same _ _ _) ?_ | refine N.idx 0 0 (by decide) (by decide) ?_ | refine N.idx 1 0 (by decide) (by decide) ?_ | refine N.idx 2 0 (by decide) (by decide) ?_ | refine N.forkNo (by decide) ?_ | refine N.forkYes (by decide) ?_ | fail_if_success skip)
          refine N.go ?_
          refine N.callAll (cParseBad w he d (by omega) hbad 0 _ (by rfl)) fun v ms hR => ?_
          obtain ⟨⟨n, hf, hne, rfl⟩ | ⟨n, e, rfl⟩, rfl⟩ := hR
          · repeat' (refine N.go ?_; first | with_reducible refine N.obl (by decide) ?_ | with_reducible refine N.obl (flat_wi _ _ _) ?_ | with_reducible refine N.obl (flat_lim _ _) ?_ | with_reducible refine N.eq ?_ | with_reducible refine N.obl rfl ?_ | with_reducible refine N.obl ⟨by kernel_rfl, by kernel_rfl⟩ ?_ | with_reducible refine N.alt ?_ | with_reducible refine N.forkT ?_ | with_reducible refine N.forkF ?_ | refine N.forkNo (by decide) ?_ | refine N.forkYes (by decide) ?_ | refine N.bin _ (nil_is _) ?_ | refine N.bin _ (err_is _ _) ?_ | refine N.bin _ (str_other _ _ _ _ hne) ?_ | refine N.call (cFmt w hw n hf 0 _ (by rfl)) ?_ | exact N.mk ⟨rfl, rfl⟩ | fail_if_success skip)
          · repeat' (refine N.go ?_; first | with_reducible refine N.obl (by decide) ?_ | with_reducible refine N.obl (flat_wi _ _ _) ?_ | with_reducible refine N.obl (flat_lim _ _) ?_ | with_reducible refine N.eq ?_ | with_reducible refine N.obl rfl ?_ | with_reducible refine N.obl ⟨by kernel_rfl, by kernel_rfl⟩ ?_ | with_reducible refine N.alt ?_ | with_reducible refine N.forkT ?_ | with_reducible refine N.forkF ?_ | refine N.forkNo (by decide) ?_ | refine N.forkYes (by decide) ?_ | refine N.bin _ (nil_is _) ?_ | refine N.bin _ (err_is _ _) ?_ | refine N.bin _ (str_other _ _ _ _ hne) ?_ | refine N.call (cFmt w hw n hf 0 _ (by rfl)) ?_ | exact N.mk ⟨rfl, rfl⟩ | fail_if_success skip)

        · have hAo : IntsIn (grown A 1 1 Tryz.t2.size (.agg ⟨[.int .i64 v1]⟩) (.int .i64 0) cpAo) [v0, v1] cpAo := ints_grown v1 hA.cell rfl rfl hcAo
          generalize grown A 1 1 Tryz.t2.size (.agg ⟨[.int .i64 v1]⟩) (.int .i64 0) cpAo = Ao at *
          have hbad : ∀ n, Fits n → numB n ≠ d := fun n hf hn => hb ⟨_, _, _, hv0, hv1, hf, hj _ _ _ rfl rfl hn⟩
          repeat' (refine N.go ?_; first | with_reducible refine N.obl (by decide) ?_ | with_reducible refine N.obl (flat_wi _ _ _) ?_ | with_reducible refine N.obl (flat_lim _ _) ?_ | with_reducible refine N.eq ?_ | with_reducible refine N.obl rfl ?_ | with_reducible refine N.obl ⟨by kernel_rfl, by kernel_rfl⟩ ?_ | with_reducible refine N.alt ?_ | with_reducible refine N.forkT ?_ | with_reducible refine N.forkF ?_ | refine N.call (cSplit3 w hw s (numB v0) (numB v1) d hs h1 h2 0 1 _ (by rfl) (by rfl)) ?_ | refine N.call (cParse w hw v0 hv0 0 _ (by rfl)) ?_ | refine N.call (cParse w hw v1 hv1 0 _ (by rfl)) ?_ | refine N.call (cFmt w hw v0 hv0 0 _ (by rfl)) ?_ | refine N.call (cFmt w hw v1 hv1 0 _ (by rfl)) ?_ | refine N.roll 4 ?_ | refine N.bin _ (nil_is _) ?_ | refine N.bin _ (str_same _ _ _) ?_ | refine N.idx 0 0 (by decide) (by decide) ?_ | refine N.idx 1 0 (by decide) (by decide) ?_ | refine N.idx 2 0 (by decide) (by decide) ?_ | refine N.forkNo (by decide) ?_ | refine N.forkYes (by decide) ?_ | fail_if_success skip)
          refine N.go ?_
          refine N.callAll (cParseBad w he d (by omega) hbad 0 _ (by rfl)) fun v ms hR => ?_
          obtain ⟨⟨n, hf, hne, rfl⟩ | ⟨n, e, rfl⟩, rfl⟩ := hR
          · repeat' (refine N.go ?_; first | with_reducible refine N.obl (by decide) ?_ | with_reducible refine N.obl (flat_wi _ _ _) ?_ | with_reducible refine N.obl (flat_lim _ _) ?_ | with_reducible refine N.eq ?_ | with_reducible refine N.obl rfl ?_ | with_reducible refine N.obl ⟨by kernel_rfl, by kernel_rfl⟩ ?_ | with_reducible refine N.alt ?_ | with_reducible refine N.forkT ?_ | with_reducible refine N.forkF ?_ | refine N.forkNo (by decide) ?_ | refine N.forkYes (by decide) ?_ | refine N.bin _ (nil_is _) ?_ | refine N.bin _ (err_is _ _) ?_ | refine N.bin _ (str_other _ _ _ _ hne) ?_ | refine N.call (cFmt w hw n hf 0 _ (by rfl)) ?_ | exact N.mk ⟨rfl, rfl⟩ | fail_if_success skip)
          · repeat' (refine N.go ?_; first | with_reducible refine N.obl (by decide) ?_ | with_reducible refine N.obl (flat_wi _ _ _) ?_ | with_reducible refine N.obl (flat_lim _ _) ?_ | with_reducible refine N.eq ?_ | with_reducible refine N.obl rfl ?_ | with_reducible refine N.obl ⟨by kernel_rfl, by kernel_rfl⟩ ?_ | with_reducible refine N.alt ?_ | with_reducible refine N.forkT ?_ | with_reducible refine N.forkF ?_ | refine N.forkNo (by decide) ?_ | refine N.forkYes (by decide) ?_ | refine N.bin _ (nil_is _) ?_ | refine N.bin _ (err_is _ _) ?_ | refine N.bin _ (str_other _ _ _ _ hne) ?_ | refine N.call (cFmt w hw n hf 0 _ (by rfl)) ?_ | exact N.mk ⟨rfl, rfl⟩ | fail_if_success skip)
      · have hbad : ∀ n, Fits n → numB n ≠ b := fun n hf hn => hg1 ⟨n, hf, hn⟩
        repeat' (refine N.go ?_; first | with_reducible refine N.obl (by decide) ?_ | with_reducible refine N.obl (flat_wi _ _ _) ?_ | with_reducible refine N.obl (flat_lim _ _) ?_ | with_reducible refine N.eq ?_ | with_reducible refine N.obl rfl ?_ | with_reducible refine N.obl ⟨by kernel_rfl, by kernel_rfl⟩ ?_ | with_reducible refine N.alt ?_ | with_reducible refine N.forkT ?_ | with_reducible refine N.forkF ?_ | refine N.call (cSplit3 w hw s (numB v0) b d hs h1 h2 0 1 _ (by rfl) (by rfl)) ?_ | refine N.call (cParse w hw v0 hv0 0 _ (by rfl)) ?_ | refine N.call (cFmt w hw v0 hv0 0 _ (by rfl)) ?_ | refine N.roll 4 ?_ | refine N.bin _ (nil_is _) ?_ | refine N.bin _ (str_same _ _ _) ?_ | refine N.idx 0 0 (by decide) (by decide) ?_ | refine N.idx 1 0 (by decide) (by decide) ?_ | refine N.idx 2 0 (by decide) (by decide) ?_ | refine N.forkNo (by decide) ?_ | refine N.forkYes (by decide) ?_ | fail_if_success skip)
        refine N.go ?_
        refine N.callAll (cParseBad w he b (by omega) hbad 0 _ (by rfl)) fun v ms hR => ?_
        obtain ⟨⟨n, hf, hne, rfl⟩ | ⟨n, e, rfl⟩, rfl⟩ := hR
        · repeat' (refine N.go ?_; first | with_reducible refine N.obl (by decide) ?_ | with_reducible refine N.obl (flat_wi _ _ _) ?_ | with_reducible refine N.obl (flat_lim _ _) ?_ | with_reducible refine N.eq ?_ | with_reducible refine N.obl rfl ?_ | with_reducible refine N.obl ⟨by kernel_rfl, by kernel_rfl⟩ ?_ | with_reducible refine N.alt ?_ | with_reducible refine N.forkT ?_ | with_reducible refine N.forkF ?_ | refine N.forkNo (by decide) ?_ | refine N.forkYes (by decide) ?_ | refine N.bin _ (nil_is _) ?_ | refine N.bin _ (err_is _ _) ?_ | refine N.bin _ (str_other _ _ _ _ hne) ?_ | refine N.call (cFmt w hw n hf 0 _ (by rfl)) ?_ | exact N.mk ⟨rfl, rfl⟩ | fail_if_success skip)
        · repeat' (refine N.go ?_; first | with_reducible refine N.obl (by decide) ?_ | with_reducible refine N.obl (flat_wi _ _ _) ?_ | with_reducible refine N.obl (flat_lim _ _) ?_ | with_reducible refine N.eq ?_ | with_reducible refine N.obl rfl ?_ | with_reducible refine N.obl ⟨by kernel_rfl, by kernel_rfl⟩ ?_ | with_reducible refine N.alt ?_ | with_reducible refine N.forkT ?_ | with_reducible refine N.forkF ?_ | refine N.forkNo (by decide) ?_ | refine N.forkYes (by decide) ?_ | refine N.bin _ (nil_is _) ?_ | refine N.bin _ (err_is _ _) ?_ | refine N.bin _ (str_other _ _ _ _ hne) ?_ | refine N.call (cFmt w hw n hf 0 _ (by rfl)) ?_ | exact N.mk ⟨rfl, rfl⟩ | fail_if_success skip)
    · have hbad : ∀ n, Fits n → numB n ≠ a := fun n hf hn => hg0 ⟨n, hf, hn⟩
      repeat' (refine N.go ?_; first | with_reducible refine N.obl (by decide) ?_ | with_reducible refine N.obl (flat_wi _ _ _) ?_ | with_reducible refine N.obl (flat_lim _ _) ?_ | with_reducible refine N.eq ?_ | with_reducible refine N.obl rfl ?_ | with_reducible refine N.obl ⟨by kernel_rfl, by kernel_rfl⟩ ?_ | with_reducible refine N.alt ?_ | with_reducible refine N.forkT ?_ | with_reducible refine N.forkF ?_ | refine N.call (cSplit3 w hw s a b d hs h1 h2 0 1 _ (by rfl) (by rfl)) ?_ | refine N.roll 4 ?_ | refine N.bin _ (nil_is _) ?_ | refine N.bin _ (str_same _ _ _) ?_ | refine N.idx 0 0 (by decide) (by decide) ?_ | refine N.idx 1 0 (by decide) (by decide) ?_ | refine N.idx 2 0 (by decide) (by decide) ?_ | refine N.forkNo (by decide) ?_ | refine N.forkYes (by decide) ?_ | fail_if_success skip)
      refine N.go ?_
      refine N.callAll (cParseBad w he a (by omega) hbad 0 _ (by rfl)) fun v ms hR => ?_
      obtain ⟨⟨n, hf, hne, rfl⟩ | ⟨n, e, rfl⟩, rfl⟩ := hR
      · repeat' (refine N.go ?_; first | with_reducible refine N.obl (by decide) ?_ | with_reducible refine N.obl (flat_wi _ _ _) ?_ | with_reducible refine N.obl (flat_lim _ _) ?_ | with_reducible refine N.eq ?_ | with_reducible refine N.obl rfl ?_ | with_reducible refine N.obl ⟨by kernel_rfl, by kernel_rfl⟩ ?_ | with_reducible refine N.alt ?_ | with_reducible refine N.forkT ?_ | with_reducible refine N.forkF ?_ | refine N.forkNo (by decide) ?_ | refine N.forkYes (by decide) ?_ | refine N.bin _ (nil_is _) ?_ | refine N.bin _ (err_is _ _) ?_ | refine N.bin _ (str_other _ _ _ _ hne) ?_ | refine N.call (cFmt w hw n hf 0 _ (by rfl)) ?_ | exact N.mk ⟨rfl, rfl⟩ | fail_if_success skip)
      · repeat' (refine N.go ?_; first | with_reducible refine N.obl (by decide) ?_ | with_reducible refine N.obl (flat_wi _ _ _) ?_ | with_reducible refine N.obl (flat_lim _ _) ?_ | with_reducible refine N.eq ?_ | with_reducible refine N.obl rfl ?_ | with_reducible refine N.obl ⟨by kernel_rfl, by kernel_rfl⟩ ?_ | with_reducible refine N.alt ?_ | with_reducible refine N.forkT ?_ | with_reducible refine N.forkF ?_ | refine N.forkNo (by decide) ?_ | refine N.forkYes (by decide) ?_ | refine N.bin _ (nil_is _) ?_ | refine N.bin _ (err_is _ _) ?_ | refine N.bin _ (str_other _ _ _ _ hne) ?_ | refine N.call (cFmt w hw n hf 0 _ (by rfl)) ?_ | exact N.mk ⟨rfl, rfl⟩ | fail_if_success skip)
  · have hne : ((Lib.splitB ⟨#[44]⟩ 0 (Lib.countB s ⟨#[44]⟩) s).length) = Lib.countB s ⟨#[44]⟩ + 1 := Lib.splitB_all ⟨#[44]⟩ (by decide) 0 _ s rfl
    generalize hL : Lib.splitB ⟨#[44]⟩ 0 (Lib.countB s ⟨#[44]⟩) s = L at *
    repeat' (refine N.go ?_; first | with_reducible refine N.obl (by decide) ?_ | with_reducible refine N.obl (flat_wi _ _ _) ?_ | with_reducible refine N.obl (flat_lim _ _) ?_ | with_reducible refine N.eq ?_ | with_reducible refine N.obl rfl ?_ | with_reducible refine N.obl ⟨by kernel_rfl, by kernel_rfl⟩ ?_ | with_reducible refine N.alt ?_ | with_reducible refine N.forkT ?_ | with_reducible refine N.forkF ?_ | refine N.call (cSplit w hw s L hs hne.symm hL 0 1 _ (by rfl) (by rfl)) ?_ | refine N.forkYes (by rw [hne]; simp; first | omega | done | fail) ?_ | exact N.mk ⟨rfl, rfl⟩ | fail_if_success skip)
theorem cCutX (W : World) (hW : TxOK W) (s p q : ByteArray) (is : Bool) (hs : s.size < 4294967281) (hc : Lib.cut s.data.toList [47] = (p.data.toList, q.data.toList, is)) (i : Nat) (h : List (Option Chunk)) (hi : h[i]? = some (some (oldC W))) :
    CallOK Tryz.prog 11 [.string s, .string ⟨#[47]⟩] h (.tuple #[.string p, .string q, .bool is]) [] [i] :=
  call_oldP i W hi rfl rfl (Tryz.call11) fun w hk => by
    obtain ⟨m, hm⟩ := (hW.kept hk).len
    refine (Tryz.strings_Cut s ⟨#[47]⟩ m w hs hm).mono ?_
    rintro e w' ⟨he, n, rfl⟩
    refine ⟨?_, drewN_below w n⟩
    rw [he, hc]
theorem good_cut {s p q : ByteArray} (hc : s.data.toList = p.data.toList ++ 47 :: q.data.toList) {x y a b d : Int} (h1 : p = headB x y) (h2 : q = tailB a b d) : s = textB x y a b d := ba_list (by rw [hc, textB_list, h1, h2])
set_option maxRecDepth 100000 in
set_option maxHeartbeats 2000000 in
theorem cParseX (W : World) (hW : TxOK W) (hE : ErOK W) (s : ByteArray) (hs : s.size ≤ 1000) (hno : ¬ ∃ x y a b d, Fits x ∧ Fits y ∧ Fits a ∧ Fits b ∧ Fits d ∧ s = textB x y a b d) (i : Nat) (h : List (Option Chunk)) (hi : h[i]? = some (some (oldC W))) :
    CallOK Tryz.prog 5 [.string s] h (.tuple #[.agg #[.int .i64 0, .int .i64 0, .int .i64 0, .int .i64 0, .int .i64 0], .bool false]) [] [i] := by
  refine call_old i W hi tysOK mixed Tryz.func5 (by rfl) hW.pos rfl rfl (Tryz.call5) fun w hk => ?_
  have hw := hW.kept hk
  have he := hE.kept hk
  have hsz : s.data.toList.length = s.size := by rw [Array.length_toList]; rfl
  obtain ⟨p, q, is, hc, hp, hq, hg⟩ : ∃ (p q : ByteArray) (is : Bool), Lib.cut s.data.toList [47] = (p.data.toList, q.data.toList, is) ∧ p.size ≤ 1000 ∧ q.size ≤ 1000 ∧ (is = true → s.data.toList = p.data.toList ++ 47 :: q.data.toList) := by
    rcases Txt.cut_any s.data.toList 47 with ⟨_, h1⟩ | ⟨a, b, h1, _, h3⟩
    · exact ⟨s, ⟨#[]⟩, false, h1, hs, by decide, fun h => by cases h⟩
    · refine ⟨⟨a.toArray⟩, ⟨b.toArray⟩, true, by rw [h3], ?_, ?_, fun _ => h1⟩
      · have : s.data.toList.length = a.length + (b.length + 1) := by rw [h1, List.length_append, List.length_cons]
        show a.toArray.size ≤ 1000
        simp; omega
      · have : s.data.toList.length = a.length + (b.length + 1) := by rw [h1, List.length_append, List.length_cons]
        show b.toArray.size ≤ 1000
        simp; omega
  by_cases hP : ∃ x y, Fits x ∧ Fits y ∧ p = headB x y
  · by_cases hQ : ∃ x y z, Fits x ∧ Fits y ∧ Fits z ∧ q = tailB x y z
    · cases is
      · obtain ⟨za, zb, zd, hza, hzb, hzd, hqe⟩ := hQ
        obtain ⟨x, y, hx, hy, hpe⟩ := hP
        repeat' (refine N.go ?_; first | with_reducible refine N.obl (by decide) ?_ | with_reducible refine N.obl (flat_wi _ _ _) ?_ | with_reducible refine N.obl (flat_lim _ _) ?_ | with_reducible refine N.eq ?_ | with_reducible refine N.obl rfl ?_ | with_reducible refine N.obl ⟨by kernel_rfl, by kernel_rfl⟩ ?_ | with_reducible refine N.alt ?_ | with_reducible refine N.forkT ?_ | with_reducible refine N.forkF ?_ | refine N.call (cCutX w hw s p q _ (by omega) hc 0 _ (by rfl)) ?_ | refine N.forkNo (by decide) ?_ | refine N.forkYes (by decide) ?_ | exact N.mk ⟨rfl, rfl⟩ | fail_if_success skip)
        refine N.go ?_
        refine N.callAll (cNumbers2 w hw p x y hx hy (by omega) (by rw [hpe]; exact head_count x y) (by rw [hpe]; exact head_split x y) 0 2 (by decide) _ (by rfl) (by rfl)) fun v ms hR => ?_
        obtain ⟨c1, rfl, rfl⟩ := hR
        repeat' (refine N.go ?_; first | with_reducible refine N.obl (by decide) ?_ | with_reducible refine N.obl (flat_wi _ _ _) ?_ | with_reducible refine N.obl (flat_lim _ _) ?_ | with_reducible refine N.eq ?_ | with_reducible refine N.obl rfl ?_ | with_reducible refine N.obl ⟨by kernel_rfl, by kernel_rfl⟩ ?_ | with_reducible refine N.alt ?_ | with_reducible refine N.forkT ?_ | with_reducible refine N.forkF ?_ | refine N.call (cCutX w hw s p q _ (by omega) hc 0 _ (by rfl)) ?_ | refine N.forkNo (by decide) ?_ | refine N.forkYes (by decide) ?_ | exact N.mk ⟨rfl, rfl⟩ | fail_if_success skip)
        refine N.go ?_
        refine N.callAll (cNumbers3 w hw q za zb zd hza hzb hzd (by omega) (by rw [hqe]; exact tail_count za zb zd) (by rw [hqe]; exact tail_split za zb zd) 0 3 (by decide) _ (by rfl) (by rfl)) fun v ms hR => ?_
        obtain ⟨c2, rfl, rfl⟩ := hR
        repeat' (refine N.go ?_; first | with_reducible refine N.obl (by decide) ?_ | with_reducible refine N.obl (flat_wi _ _ _) ?_ | with_reducible refine N.obl (flat_lim _ _) ?_ | with_reducible refine N.eq ?_ | with_reducible refine N.obl rfl ?_ | with_reducible refine N.obl ⟨by kernel_rfl, by kernel_rfl⟩ ?_ | with_reducible refine N.alt ?_ | with_reducible refine N.forkT ?_ | with_reducible refine N.forkF ?_ | refine N.call (cCutX w hw s p q _ (by omega) hc 0 _ (by rfl)) ?_ | refine N.forkNo (by decide) ?_ | refine N.forkYes (by decide) ?_ | exact N.mk ⟨rfl, rfl⟩ | fail_if_success skip)
      · obtain ⟨x, y, hx, hy, hpe⟩ := hP
        obtain ⟨a, b, d, ha, hb, hd, hqe⟩ := hQ
        exact absurd ⟨x, y, a, b, d, hx, hy, ha, hb, hd, good_cut (hg rfl) hpe hqe⟩ hno
    · cases is
      · obtain ⟨x, y, hx, hy, hpe⟩ := hP
        repeat' (refine N.go ?_; first | with_reducible refine N.obl (by decide) ?_ | with_reducible refine N.obl (flat_wi _ _ _) ?_ | with_reducible refine N.obl (flat_lim _ _) ?_ | with_reducible refine N.eq ?_ | with_reducible refine N.obl rfl ?_ | with_reducible refine N.obl ⟨by kernel_rfl, by kernel_rfl⟩ ?_ | with_reducible refine N.alt ?_ | with_reducible refine N.forkT ?_ | with_reducible refine N.forkF ?_ | refine N.call (cCutX w hw s p q _ (by omega) hc 0 _ (by rfl)) ?_ | refine N.call (cNumbersBad3 w hw he q (by omega) hQ 0 _ (by rfl)) ?_ | refine N.forkNo (by decide) ?_ | refine N.forkYes (by decide) ?_ | exact N.mk ⟨rfl, rfl⟩ | fail_if_success skip)
        refine N.go ?_
        refine N.callAll (cNumbers2 w hw p x y hx hy (by omega) (by rw [hpe]; exact head_count x y) (by rw [hpe]; exact head_split x y) 0 2 (by decide) _ (by rfl) (by rfl)) fun v ms hR => ?_
        obtain ⟨c1, rfl, rfl⟩ := hR
        repeat' (refine N.go ?_; first | with_reducible refine N.obl (by decide) ?_ | with_reducible refine N.obl (flat_wi _ _ _) ?_ | with_reducible refine N.obl (flat_lim _ _) ?_ | with_reducible refine N.eq ?_ | with_reducible refine N.obl rfl ?_ | with_reducible refine N.obl ⟨by kernel_rfl, by kernel_rfl⟩ ?_ | with_reducible refine N.alt ?_ | with_reducible refine N.forkT ?_ | with_reducible refine N.forkF ?_ | refine N.call (cCutX w hw s p q _ (by omega) hc 0 _ (by rfl)) ?_ | refine N.call (cNumbersBad3 w hw he q (by omega) hQ 0 _ (by rfl)) ?_ | refine N.forkNo (by decide) ?_ | refine N.forkYes (by decide) ?_ | exact N.mk ⟨rfl, rfl⟩ | fail_if_success skip)
      · obtain ⟨x, y, hx, hy, hpe⟩ := hP
        repeat' (refine N.go ?_; first | with_reducible refine N.obl (by decide) ?_ | with_reducible refine N.obl (flat_wi _ _ _) ?_ | with_reducible refine N.obl (flat_lim _ _) ?_ | with_reducible refine N.eq ?_ | with_reducible refine N.obl rfl ?_ | with_reducible refine N.obl ⟨by kernel_rfl, by kernel_rfl⟩ ?_ | with_reducible refine N.alt ?_ | with_reducible refine N.forkT ?_ | with_reducible refine N.forkF ?_ | refine N.call (cCutX w hw s p q _ (by omega) hc 0 _ (by rfl)) ?_ | refine N.call (cNumbersBad3 w hw he q (by omega) hQ 0 _ (by rfl)) ?_ | refine N.forkNo (by decide) ?_ | refine N.forkYes (by decide) ?_ | exact N.mk ⟨rfl, rfl⟩ | fail_if_success skip)
        refine N.go ?_
        refine N.callAll (cNumbers2 w hw p x y hx hy (by omega) (by rw [hpe]; exact head_count x y) (by rw [hpe]; exact head_split x y) 0 2 (by decide) _ (by rfl) (by rfl)) fun v ms hR => ?_
        obtain ⟨c1, rfl, rfl⟩ := hR
        repeat' (refine N.go ?_; first | with_reducible refine N.obl (by decide) ?_ | with_reducible refine N.obl (flat_wi _ _ _) ?_ | with_reducible refine N.obl (flat_lim _ _) ?_ | with_reducible refine N.eq ?_ | with_reducible refine N.obl rfl ?_ | with_reducible refine N.obl ⟨by kernel_rfl, by kernel_rfl⟩ ?_ | with_reducible refine N.alt ?_ | with_reducible refine N.forkT ?_ | with_reducible refine N.forkF ?_ | refine N.call (cCutX w hw s p q _ (by omega) hc 0 _ (by rfl)) ?_ | refine N.call (cNumbersBad3 w hw he q (by omega) hQ 0 _ (by rfl)) ?_ | refine N.forkNo (by decide) ?_ | refine N.forkYes (by decide) ?_ | exact N.mk ⟨rfl, rfl⟩ | fail_if_success skip)
  · by_cases hQ : ∃ x y z, Fits x ∧ Fits y ∧ Fits z ∧ q = tailB x y z
    · cases is
      · obtain ⟨za, zb, zd, hza, hzb, hzd, hqe⟩ := hQ
        repeat' (refine N.go ?_; first | with_reducible refine N.obl (by decide) ?_ | with_reducible refine N.obl (flat_wi _ _ _) ?_ | with_reducible refine N.obl (flat_lim _ _) ?_ | with_reducible refine N.eq ?_ | with_reducible refine N.obl rfl ?_ | with_reducible refine N.obl ⟨by kernel_rfl, by kernel_rfl⟩ ?_ | with_reducible refine N.alt ?_ | with_reducible refine N.forkT ?_ | with_reducible refine N.forkF ?_ | refine N.call (cCutX w hw s p q _ (by omega) hc 0 _ (by rfl)) ?_ | refine N.call (cNumbersBad2 w hw he p (by omega) hP 0 _ (by rfl)) ?_ | refine N.forkNo (by decide) ?_ | refine N.forkYes (by decide) ?_ | exact N.mk ⟨rfl, rfl⟩ | fail_if_success skip)
        refine N.go ?_
        refine N.callAll (cNumbers3 w hw q za zb zd hza hzb hzd (by omega) (by rw [hqe]; exact tail_count za zb zd) (by rw [hqe]; exact tail_split za zb zd) 0 2 (by decide) _ (by rfl) (by rfl)) fun v ms hR => ?_
        obtain ⟨c2, rfl, rfl⟩ := hR
        repeat' (refine N.go ?_; first | with_reducible refine N.obl (by decide) ?_ | with_reducible refine N.obl (flat_wi _ _ _) ?_ | with_reducible refine N.obl (flat_lim _ _) ?_ | with_reducible refine N.eq ?_ | with_reducible refine N.obl rfl ?_ | with_reducible refine N.obl ⟨by kernel_rfl, by kernel_rfl⟩ ?_ | with_reducible refine N.alt ?_ | with_reducible refine N.forkT ?_ | with_reducible refine N.forkF ?_ | refine N.call (cCutX w hw s p q _ (by omega) hc 0 _ (by rfl)) ?_ | refine N.call (cNumbersBad2 w hw he p (by omega) hP 0 _ (by rfl)) ?_ | refine N.forkNo (by decide) ?_ | refine N.forkYes (by decide) ?_ | exact N.mk ⟨rfl, rfl⟩ | fail_if_success skip)
      · obtain ⟨za, zb, zd, hza, hzb, hzd, hqe⟩ := hQ
        repeat' (refine N.go ?_; first | with_reducible refine N.obl (by decide) ?_ | with_reducible refine N.obl (flat_wi _ _ _) ?_ | with_reducible refine N.obl (flat_lim _ _) ?_ | with_reducible refine N.eq ?_ | with_reducible refine N.obl rfl ?_ | with_reducible refine N.obl ⟨by kernel_rfl, by kernel_rfl⟩ ?_ | with_reducible refine N.alt ?_ | with_reducible refine N.forkT ?_ | with_reducible refine N.forkF ?_ | refine N.call (cCutX w hw s p q _ (by omega) hc 0 _ (by rfl)) ?_ | refine N.call (cNumbersBad2 w hw he p (by omega) hP 0 _ (by rfl)) ?_ | refine N.forkNo (by decide) ?_ | refine N.forkYes (by decide) ?_ | exact N.mk ⟨rfl, rfl⟩ | fail_if_success skip)
        refine N.go ?_
        refine N.callAll (cNumbers3 w hw q za zb zd hza hzb hzd (by omega) (by rw [hqe]; exact tail_count za zb zd) (by rw [hqe]; exact tail_split za zb zd) 0 2 (by decide) _ (by rfl) (by rfl)) fun v ms hR => ?_
        obtain ⟨c2, rfl, rfl⟩ := hR
        repeat' (refine N.go ?_; first | with_reducible refine N.obl (by decide) ?_ | with_reducible refine N.obl (flat_wi _ _ _) ?_ | with_reducible refine N.obl (flat_lim _ _) ?_ | with_reducible refine N.eq ?_ | with_reducible refine N.obl rfl ?_ | with_reducible refine N.obl ⟨by kernel_rfl, by kernel_rfl⟩ ?_ | with_reducible refine N.alt ?_ | with_reducible refine N.forkT ?_ | with_reducible refine N.forkF ?_ | refine N.call (cCutX w hw s p q _ (by omega) hc 0 _ (by rfl)) ?_ | refine N.call (cNumbersBad2 w hw he p (by omega) hP 0 _ (by rfl)) ?_ | refine N.forkNo (by decide) ?_ | refine N.forkYes (by decide) ?_ | exact N.mk ⟨rfl, rfl⟩ | fail_if_success skip)
    · cases is
      · repeat' (refine N.go ?_; first | with_reducible refine N.obl (by decide) ?_ | with_reducible refine N.obl (flat_wi _ _ _) ?_ | with_reducible refine N.obl (flat_lim _ _) ?_ | with_reducible refine N.eq ?_ | with_reducible refine N.obl rfl ?_ | with_reducible refine N.obl ⟨by kernel_rfl, by kernel_rfl⟩ ?_ | with_reducible refine N.alt ?_ | with_reducible refine N.forkT ?_ | with_reducible refine N.forkF ?_ | refine N.call (cCutX w hw s p q _ (by omega) hc 0 _ (by rfl)) ?_ | refine N.call (cNumbersBad2 w hw he p (by omega) hP 0 _ (by rfl)) ?_ | refine N.call (cNumbersBad3 w hw he q (by omega) hQ 0 _ (by rfl)) ?_ | refine N.forkNo (by decide) ?_ | refine N.forkYes (by decide) ?_ | exact N.mk ⟨rfl, rfl⟩ | fail_if_success skip)
      · repeat' (refine N.go ?_; first | with_reducible refine N.obl (by decide) ?_ | with_reducible refine N.obl (flat_wi _ _ _) ?_ | with_reducible refine N.obl (flat_lim _ _) ?_ | with_reducible refine N.eq ?_ | with_reducible refine N.obl rfl ?_ | with_reducible refine N.obl ⟨by kernel_rfl, by kernel_rfl⟩ ?_ | with_reducible refine N.alt ?_ | with_reducible refine N.forkT ?_ | with_reducible refine N.forkF ?_ | refine N.call (cCutX w hw s p q _ (by omega) hc 0 _ (by rfl)) ?_ | refine N.call (cNumbersBad2 w hw he p (by omega) hP 0 _ (by rfl)) ?_ | refine N.call (cNumbersBad3 w hw he q (by omega) hQ 0 _ (by rfl)) ?_ | refine N.forkNo (by decide) ?_ | refine N.forkYes (by decide) ?_ | exact N.mk ⟨rfl, rfl⟩ | fail_if_success skip)
end Go.Proofs.YtdnkeeedcnjofaaGreatDoor
