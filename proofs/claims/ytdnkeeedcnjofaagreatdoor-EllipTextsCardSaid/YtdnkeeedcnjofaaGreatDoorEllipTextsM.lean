import Derived.Test.YtdnkeeedcnjofaaGreatDoorRows
import Derived.Test.YtdnkeeedcnjofaaGreatDoorTie
import Derived.Test.YtdnkeeedcnjofaaGreatDoorCards
import Derived.Lay
import Derived.Shelf.Vars
import Derived.Lib.LaidU8
import Derived.LaidMore
import Derived.SevenTiedAt
import Derived.ChangeMaps5
import Derived.LaidLaws
import Derived.Test.YtdnkeeedcnjofaaGreatDoorM6

/-
  The statement EllipTexts: for every ellipse and every text the law returns true: Text and Parse answer as the document's do. The card: the listed tables and errors lie as the program's own text lays them.
-/
set_option linter.unusedVariables false
set_option linter.unusedSimpArgs false
namespace Go.Proofs.YtdnkeeedcnjofaaGreatDoor.ellipTexts
open Go Go.ChangeShapes Go.WideShapes Go.ChangeAt Go.RowKit Sx

set_option maxRecDepth 100000 in
theorem eq_same (x y : Operand) (a b c d e : Int) : BinIs Tryz.prog .eql 27 x y (.agg #[.int .i64 a, .int .i64 b, .int .i64 c, .int .i64 d, .int .i64 e]) (.agg #[.int .i64 a, .int .i64 b, .int .i64 c, .int .i64 d, .int .i64 e]) (.bool true) :=
  ⟨rfl, rfl, rfl, fun w => by go_simp⟩
set_option maxRecDepth 100000 in
theorem docV_text (x y a b d : Int) (hx : Fits x) (hy : Fits y) (ha : Fits a) (hb : Fits b) (hd : Fits d) : docV (textB x y a b d) = if mayP x y a b d then .tuple #[.agg #[.int .i64 x, .int .i64 y, .int .i64 a, .int .i64 b, .int .i64 d], .bool true] else .tuple #[.agg #[.int .i64 0, .int .i64 0, .int .i64 0, .int .i64 0, .int .i64 0], .bool false] := by
  have e : Txt.docL (Txt.pieces (textB x y a b d).data.toList) [] = some [x, y, a, b, d] := by
    have := Txt.docL_text x y a b d hx hy ha hb hd
    rw [textB_list, headB_list, tailB_list]
    rw [List.append_assoc]
    exact this
  unfold docV
  rw [e]
  show (if _ then _ else _) = _
  by_cases h : mayP x y a b d
  · rw [if_pos ⟨h, rfl⟩, if_pos h]
  · rw [if_neg (fun k => h k.1), if_neg h]
theorem docV_not (s : ByteArray) (h : ¬ ∃ x y a b d, Fits x ∧ Fits y ∧ Fits a ∧ Fits b ∧ Fits d ∧ s = textB x y a b d) : docV s = .tuple #[.agg #[.int .i64 0, .int .i64 0, .int .i64 0, .int .i64 0, .int .i64 0], .bool false] := by
  cases e : Txt.docL (Txt.pieces s.data.toList) [] with
  | none => unfold docV; rw [e]; rfl
  | some l =>
    have hf := Txt.docL_fits _ [] l (fun n hn => by cases hn) e
    unfold docV
    rw [e]
    unfold docW
    split
    · rename_i x y a b d hl
      have hl := Option.some.inj hl
      subst hl
      rw [if_neg]
      exact fun k => h ⟨x, y, a, b, d, hf x (by simp), hf y (by simp), hf a (by simp), hf b (by simp), hf d (by simp), k.2.symm⟩
    · rfl
theorem uParse (W : World) (hW : TxOK W) (hE : ErOK W) (s : ByteArray) (hs : s.size ≤ 300) (i : Nat) (h : List (Option Chunk)) (hi : h[i]? = some (some (oldC W))) {v : Value} (hv : docV s = v) : CallOK Tryz.prog 5 [.string s] h v [] [i] := by
  subst hv
  by_cases k : ∃ x y a b d, Fits x ∧ Fits y ∧ Fits a ∧ Fits b ∧ Fits d ∧ s = textB x y a b d
  · obtain ⟨x, y, a, b, d, hx, hy, ha, hb, hd, rfl⟩ := k
    rw [docV_text x y a b d hx hy ha hb hd]
    by_cases hm : mayP x y a b d
    · rw [if_pos hm]; exact cParseY W hW x y a b d hx hy ha hb hd hm i h hi
    · rw [if_neg hm]; exact cParseN W hW x y a b d hx hy ha hb hd hm i h hi
  · rw [docV_not s k]
    exact cParseX W hW hE s (by omega) k i h hi
theorem uRParse (W : World) (hW : TxOK W) (s : ByteArray) (hs : s.size ≤ 300) (i : Nat) (h : List (Option Chunk)) (hi : h[i]? = some (some (oldC W))) {v : Value} (hv : docV s = v) : CallOK Tryz.prog 6 [.string s] h v [] [i] := by
  subst hv
  exact call_oldP i W hi rfl (plain_docV s) (Tryz.call6) fun w hk => rparse_x s hs w (hW.kept hk)
theorem uRText (W : World) (hW : TxOK W) (x y a b d : Int) (hx : Fits x) (hy : Fits y) (ha : Fits a) (hb : Fits b) (hd : Fits d) (i : Nat) (h : List (Option Chunk)) (hi : h[i]? = some (some (oldC W))) : CallOK Tryz.prog 8 [.agg #[.int .i64 x, .int .i64 y, .int .i64 a, .int .i64 b, .int .i64 d]] h (.string (textB x y a b d)) [] [i] :=
  call_oldP i W hi rfl rfl (Tryz.call8) fun w hk => rtext_x x y a b d hx hy ha hb hd w (hW.kept hk)
theorem docV_form (s : ByteArray) : ∃ (x y a b d : Int) (is : Bool), docV s = .tuple #[.agg #[.int .i64 x, .int .i64 y, .int .i64 a, .int .i64 b, .int .i64 d], .bool is] := by
  unfold docV
  generalize Txt.docL (Txt.pieces s.data.toList) [] = o
  unfold docW
  split
  · split
    · exact ⟨_, _, _, _, _, _, rfl⟩
    · exact ⟨_, _, _, _, _, _, rfl⟩
  · exact ⟨_, _, _, _, _, _, rfl⟩
set_option maxRecDepth 100000 in
set_option maxHeartbeats 2000000 in
theorem walk (x y a b d : Int) (hx : Fits x) (hy : Fits y) (ha : Fits a) (hb : Fits b) (hd : Fits d) (s : ByteArray) (hs : s.size ≤ 9223372036854775807) (W : World) (hW : TxOK W) (hE : ErOK W) :
    Calls Tryz.prog 3 #[.agg #[.int .i64 x, .int .i64 y, .int .i64 a, .int .i64 b, .int .i64 d], .string s] W fun o W' => o = .returned (.bool true) ∧ Below W.heap.size W W' := by
  obtain ⟨x1, y1, a1, b1, d1, is, hv⟩ := docV_form s
  by_cases h3 : s.size ≤ 300
  · refine calls_old (G := tys) (vs := [.agg #[.int .i64 x, .int .i64 y, .int .i64 a, .int .i64 b, .int .i64 d], .string s]) W tysOK mixed Tryz.func3 (by rfl) hW.pos rfl rfl ?_
    repeat' (refine N.go ?_; first | with_reducible refine N.obl (by decide) ?_ | with_reducible refine N.obl (flat_wi _ _ _) ?_ | with_reducible refine N.obl (flat_lim _ _) ?_ | with_reducible refine N.eq ?_ | with_reducible refine N.obl rfl ?_ | with_reducible refine N.obl ⟨by kernel_rfl, by kernel_rfl⟩ ?_ | with_reducible refine N.alt ?_ | with_reducible refine N.forkT ?_ | with_reducible refine N.forkF ?_ | refine N.lenS Tryz.underlying9 ?_ | refine N.call (uParse W hW hE s h3 0 _ (by rfl) hv) ?_ | refine N.call (uRParse W hW s h3 0 _ (by rfl) hv) ?_ | refine N.call (cText W hW x y a b d hx hy ha hb hd 0 _ (by rfl)) ?_ | refine N.call (uRText W hW x y a b d hx hy ha hb hd 0 _ (by rfl)) ?_ | refine N.call (cAwake4 _) ?_ | refine N.bin _ (eq_same _ _ _ _ _ _ _) ?_ | refine N.bin _ (str_eql _ _ _ _) ?_ | refine N.forkYes (decide_eq_true rfl) ?_ | refine N.forkYes (beq_self_eq_true _) ?_ | refine N.forkYes (decide_eq_true (by omega)) ?_ | refine N.forkNo (decide_eq_false (by omega)) ?_ | refine N.forkNo (by decide) ?_ | refine N.forkYes (by decide) ?_ | exact N.mk ⟨rfl, rfl⟩ | fail_if_success skip)
  · refine calls_old (G := tys) (vs := [.agg #[.int .i64 x, .int .i64 y, .int .i64 a, .int .i64 b, .int .i64 d], .string s]) W tysOK mixed Tryz.func3 (by rfl) hW.pos rfl rfl ?_
    repeat' (refine N.go ?_; first | with_reducible refine N.obl (by decide) ?_ | with_reducible refine N.obl (flat_wi _ _ _) ?_ | with_reducible refine N.obl (flat_lim _ _) ?_ | with_reducible refine N.eq ?_ | with_reducible refine N.obl rfl ?_ | with_reducible refine N.obl ⟨by kernel_rfl, by kernel_rfl⟩ ?_ | with_reducible refine N.alt ?_ | with_reducible refine N.forkT ?_ | with_reducible refine N.forkF ?_ | refine N.lenS Tryz.underlying9 ?_ | refine N.call (uParse W hW hE s h3 0 _ (by rfl) hv) ?_ | refine N.call (uRParse W hW s h3 0 _ (by rfl) hv) ?_ | refine N.call (cText W hW x y a b d hx hy ha hb hd 0 _ (by rfl)) ?_ | refine N.call (uRText W hW x y a b d hx hy ha hb hd 0 _ (by rfl)) ?_ | refine N.call (cAwake4 _) ?_ | refine N.bin _ (eq_same _ _ _ _ _ _ _) ?_ | refine N.bin _ (str_eql _ _ _ _) ?_ | refine N.forkYes (decide_eq_true rfl) ?_ | refine N.forkYes (beq_self_eq_true _) ?_ | refine N.forkYes (decide_eq_true (by omega)) ?_ | refine N.forkNo (decide_eq_false (by omega)) ?_ | refine N.forkNo (by decide) ?_ | refine N.forkYes (by decide) ?_ | exact N.mk ⟨rfl, rfl⟩ | fail_if_success skip)
theorem fits_wf {n : Int} (w : (Lit.int .i64 n).wf) : Fits n := by
  have : -9223372036854775808 ≤ n ∧ n ≤ 9223372036854775807 := by simpa [Lit.wf, IntKind.min, IntKind.max, IntKind.signed, IntKind.bits] using w
  exact this
set_option maxRecDepth 100000 in
theorem open_ell {H : Type} {enc : TypeId × Value → H} {W : World} {r : Reach} {base : Nat} {v : Value} {d : DataW H} {p : List MemPlace}
    (hv : Value.okWide Tryz.prog W r base 27 v) (h : DataW.Trod enc Tryz.prog W 0 (fun _ => true) true 27 v d p) :
    ∃ x0 x1 x2 x3 x4 : Int, v = .agg #[.int .i64 x0, .int .i64 x1, .int .i64 x2, .int .i64 x3, .int .i64 x4] ∧ Fits x0 ∧ Fits x1 ∧ Fits x2 ∧ Fits x3 ∧ Fits x4 := by
  obtain ⟨cs, rfl, hs⟩ := okWide_struct Tryz.underlying27 hv
  have hs2 : cs.size = 5 := hs.trans (by kernel_rfl)
  obtain ⟨l⟩ := cs
  match l, hs2 with
  | [c0, c1, c2, c3, c4], _ =>
    obtain ⟨fuel, hf⟩ := h
    have hf' : DataW.trod enc Tryz.prog W 0 (fun _ => true) true fuel 27 [c0, c1, c2, c3, c4] = some (d, p) := hf
    obtain ⟨k0, w0⟩ := leaf_int (d := 3) (l := 2) (j := 0) (u := c0) (by kernel_rfl) (@Tryz.underlying2) rfl hf'
    obtain ⟨k1, w1⟩ := leaf_int (d := 3) (l := 2) (j := 1) (u := c1) (by kernel_rfl) (@Tryz.underlying2) rfl hf'
    obtain ⟨k2, w2⟩ := leaf_int (d := 3) (l := 2) (j := 2) (u := c2) (by kernel_rfl) (@Tryz.underlying2) rfl hf'
    obtain ⟨k3, w3⟩ := leaf_int (d := 3) (l := 2) (j := 3) (u := c3) (by kernel_rfl) (@Tryz.underlying2) rfl hf'
    obtain ⟨k4, w4⟩ := leaf_int (d := 3) (l := 2) (j := 4) (u := c4) (by kernel_rfl) (@Tryz.underlying2) rfl hf'
    exact ⟨intOf c0, intOf c1, intOf c2, intOf c3, intOf c4, by conv => lhs; rw [k0, k1, k2, k3, k4], fits_wf w0, fits_wf w1, fits_wf w2, fits_wf w3, fits_wf w4⟩
set_option maxRecDepth 100000 in
theorem open_str {H : Type} {enc : TypeId × Value → H} {W : World} {r : Reach} {b0 base : Nat} {sp : Nat → Bool} {held : Bool} {v : Value} {d : DataW H} {ps : List MemPlace} (hval : Value.okWide Tryz.prog W r b0 9 v) (hd : DataW.Trod enc Tryz.prog W base sp held 9 v d ps) : ∃ s : ByteArray, v = .string s ∧ s.size ≤ 9223372036854775807 := by
  obtain ⟨s, h1, _, _, hs⟩ := ChangeMaps.open_string (P := Tryz.prog) (t := 9) (v := v) (d := d) Tryz.underlying9 hval hd
  exact ⟨s, h1, hs⟩
theorem tab_agg {W : World} {zs : List Int} (h : Lib.VarReads Tryz.prog W "internal/strconv.uint64pow10" (Lib.tabData .u64 zs)) (hn : zs.length = 20) : Lib.TabIs Tryz.prog W "internal/strconv.uint64pow10" .u64 zs := by
  obtain ⟨g, t, cs, fuel, p, hg, ht, hvar, hd⟩ := h
  obtain rfl := Option.some.inj ((show Tryz.prog.globalNamed "internal/strconv.uint64pow10" = some 1 by kernel_rfl).symm.trans hg)
  obtain rfl := Option.some.inj ((show (Tryz.prog.globals[1]?).map (·.type) = some 104 by kernel_rfl).symm.trans ht)
  unfold Lib.TabIs
  rw [hvar, ← Lib.cells_of_tab (n := 20) (e := 59) (by kernel_rfl) (by kernel_rfl) (by kernel_rfl) (by kernel_rfl) hd]
theorem err_agg {W : World} {nm : String} {g : Nat} {nm2 : String} {d : DataW Unit} (h : Lib.VarReads Tryz.prog W nm (.iface nm2 d)) (hg' : Tryz.prog.globalNamed nm = some g) (ht' : (Tryz.prog.globals[g]?).map (·.type) = some 55) : ∃ ev, W.cell? ⟨g, 0, none⟩ = some ev ∧ (ev = .nilIface ∨ ∃ te pe, ev = .iface te pe) := by
  obtain ⟨g2, t, cs, fuel, p, hg, ht, hvar, hd⟩ := h
  obtain rfl := Option.some.inj (hg'.symm.trans hg)
  obtain rfl := Option.some.inj (ht'.symm.trans ht)
  obtain ⟨_, u, v, hcs, _, _⟩ := iface_of_trod Tryz.underlying55 hd
  refine ⟨.iface u v, ?_, .inr ⟨u, v, rfl⟩⟩
  unfold World.var? at hvar
  rw [hg'] at hvar
  simp only [Option.bind_some] at hvar
  cases hw : W.heap[g]? with
  | none => rw [hw] at hvar; cases hvar
  | some o =>
    rw [hw] at hvar
    cases o <;> simp at hvar
    subst hvar
    simp only [World.cell?, hw]
    rw [← Array.getElem?_toList, hcs]; rfl
theorem tx_of {W : World} (hL : laidMetH Tryz.prog Rows.ellipTextsRow.laid W) (hs : W.ShapedOpen Tryz.prog) : TxOK W ∧ ErOK W := by
  rw [MakeChecks.laidMetH_plain _ _ _ (by kernel_rfl)] at hL
  obtain ⟨m, hm⟩ := Go.Proofs.cell_of_shapedOpen_int (g := 0) (zero := #[.int .i64 0]) (t := 3) hs (of_decide_eq_true (by kernel_rfl)) (by kernel_rfl) rfl (by kernel_rfl) (by kernel_rfl) Tryz.underlying3
  exact ⟨⟨by have := World.block_lt_of_cell? _ _ hm; omega, tab_agg (Lib.laidMet.reads hL (.tail _ (.tail _ (.head _)))) rfl, m, hm⟩, err_agg (Lib.laidMet.reads hL (.tail _ (.tail _ (.tail _ (.tail _ (.tail _ (.head _))))))) (by kernel_rfl) (by kernel_rfl), err_agg (Lib.laidMet.reads hL (.tail _ (.tail _ (.tail _ (.tail _ (.head _)))))) (by kernel_rfl) (by kernel_rfl)⟩
set_option maxRecDepth 100000 in
theorem run {H : Type} {enc : TypeId × Value → H} (W : World) (base : Nat) (args : Array Value) (ds gs : List (DataW H)) (before : List MemPlace)
    (hval : ∀ (j : Nat) t v, Tryz.f3.params[j]? = some t → args[j]? = some v → Value.okWide Tryz.prog W .any base t v)
    (hW : DataW.Whole enc Tryz.prog Tryz.f3.params.toList Rows.ellipTextsSpec.vars false W args.toList ds gs before) (hL : laidMetH Tryz.prog Rows.ellipTextsRow.laid W) (hs : W.ShapedOpen Tryz.prog) :
    Calls Tryz.prog 3 args W fun e W' => ∃ v, e = .returned v ∧ Rows.ellipTextsSpec.post enc Tryz.prog Tryz.f3 false true false false W args v W' := by
  have hW' := hW
  obtain ⟨p, q, hA0, hV, rfl, _, _⟩ := hW
  have hA : DataW.TrodAll enc Tryz.prog W 0 (fun _ => true) true Tryz.f3.params.toList args.toList ds p := hA0
  rw [Tryz.params3] at hA hval
  obtain ⟨v0, v1, d0, d1, p0, p1, rfl, rfl, rfl, h0, h1⟩ := trodAll_two hA
  obtain ⟨rfl, rfl⟩ := trodVars_none hV
  obtain ⟨x, y, a, b, d, rfl, hx, hy, ha, hb, hd⟩ := open_ell (hval 0 _ v0 rfl rfl) h0
  obtain ⟨s, rfl, hss⟩ := open_str (hval 1 _ v1 rfl rfl) h1
  refine (walk x y a b d hx hy ha hb hd s hss W (tx_of hL hs).1 (tx_of hL hs).2).mono fun e W' ⟨he, bel⟩ => ?_
  subst he
  have hl : laidOutB Tryz.prog = true := Tryz.laidOut
  refine ⟨_, rfl, [d0, d1], [], (p0 ++ p1) ++ [], [], p0 ++ p1, [], hW', trodAll_mk1 (shut_bool Tryz.underlying4 _), ?_, rfl, bel.frame _, fun h => by cases h⟩
  exact trodAll_kept hl bel _ _ _ _ (fun t ht => by
    have hr : (Tryz.f3.params.toList.all (fun t => Tryz.prog.readableRec t && decide (t < Tryz.prog.types.size))) = true := by kernel_rfl
    have := List.all_eq_true.1 hr t ht
    simpa using this) hA0
theorem own : ownKnob Tryz.prog.godebug = none := by kernel_rfl
set_option maxRecDepth 100000 in
theorem lifted (os : Os) (started : os.Started) (H : Type) (enc : TypeId × Value → H) :
    ReturnsInHanded {} Tryz.checked os 3 .any (fun w args => (Rows.ellipTextsSpec.pre enc Tryz.prog Tryz.f3 [] false w args ∧ laidMetH Tryz.prog Rows.ellipTextsRow.laid w) ∧ sizedMet enc Tryz.prog Tryz.f3 (OpenSpec.ofChange Rows.ellipTextsSpec) false w args)
      (Rows.ellipTextsSpec.post enc Tryz.prog Tryz.f3 false true false false) := by
  refine returnsInHanded_of_calls own started (by kernel_rfl)
    (ChangeSpec.witness_shaped (enc := enc) (C := Tryz.checked) (os := os) (X := fun w _ => laidMetH Tryz.prog Rows.ellipTextsRow.laid w) false (World.laidAll Tryz.prog os Rows.ellipTextsRow.laid) #[.agg #[.int .i64 0, .int .i64 0, .int .i64 0, .int .i64 0, .int .i64 0], .string ⟨#[]⟩] 8 (World.laidAll_os _ _ _)
      (World.shaped_of_ZipB (by kernel_rfl) (by kernel_rfl)) (by kernel_rfl) (by kernel_rfl) (by kernel_rfl)
      (by rw [MakeChecks.laidMetH_plain _ _ _ (by kernel_rfl)]; exact laidMet_laidAll _ (by kernel_rfl) (by kernel_rfl))) ?_
  intro w tape i _ hsh _ hok hpre hholds
  obtain ⟨_, _, _, fn', hfn', _, _, _, _, hval⟩ := hok
  obtain rfl : fn' = Tryz.f3 := (Option.some.inj (Tryz.func3.symm.trans hfn')).symm
  obtain ⟨⟨⟨ds, gs, before, hw0, hc⟩, hx⟩, hz⟩ := hpre
  have hW := DataW.Whole.of_heap (w' := w.forCall tape i) (by rfl) hw0
  have hL : laidMetH Tryz.prog Rows.ellipTextsRow.laid (w.forCall tape i) := laidMetH.of_heap (by rfl) hx
  refine (run (w.forCall tape i) w.heap.size i.args ds gs before hval hW hL hsh).mono fun e W' ⟨v, he, hp⟩ => ?_
  subst he
  exact ChangeSpec.post_blind hp
theorem holds : Rows.EllipTextsSaid :=
  OpenClaim.holds_of_wide 3 Tryz.f3 rfl rfl rfl rfl rfl rfl rfl ⟨rfl, rfl, rfl, rfl, rfl⟩ rfl rfl rfl rfl rfl (by kernel_rfl) Tryz.func3 (by kernel_rfl)
    (of_decide_eq_true (by kernel_rfl)) (by unfold Func.isWrapper; first | (rw [if_pos (by decide +kernel)]; kernel_rfl) | (rw [if_neg (by decide +kernel)]; exact ⟨rfl, rfl⟩))
    (fun os started H enc _ => lifted os started H enc)
theorem proved : Rows.EllipTextsCardSaid :=
  Claim7.holds_tied_plain_at .later [] [.data, .data, .data, .data, .sentinel, .sentinel, .pinned] true (true, "72df171281031febb00768a653949aaf79be14f52c3b08a682e88723dc04b572") true holds (fun _ h => by cases h) (by kernel_rfl) (fun _ h => by cases h) ellipTexts_row_tie rfl ⟨rfl, rfl⟩ (by kernel_rfl) rfl
    (fun f fn hf hfn => by
      obtain rfl : f = 3 := Option.some.inj ((show Tryz.prog.funcNamed "alidade/alidadelaw4.EllipTexts" = some 3 by kernel_rfl).symm.trans hf) |>.symm
      obtain rfl : fn = Tryz.f3 := (Option.some.inj (Tryz.func3.symm.trans hfn)).symm
      exact ⟨by kernel_rfl, fun j t ht => by
        rw [Tryz.params3] at ht
        have hm : t ∈ [27, 9] := by simpa using Array.mem_of_getElem? ht
        have hall : ([27, 9].all fun u => !Tryz.prog.wantsStandIn u) = true := by kernel_rfl
        exact (show Tryz.prog.wantsStandIn t = false by simpa using List.all_eq_true.1 hall t hm)⟩)
    (by kernel_rfl)
#print axioms proved
end Go.Proofs.YtdnkeeedcnjofaaGreatDoor.ellipTexts
