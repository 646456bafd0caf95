
/-
  The statement EllipBack: for every ellipse the law returns true: what Text writes Parse reads back where the ellipse may be, and refuses where it may not. The card: the listed tables lie as the program's own text lays them.
-/
import Derived.Test.YtbepibdjlajppaaDoorTp
import Derived.Test.YtbepibdjlajppaaDoorArg
import Derived.Test.YtbepibdjlajppaaDoorRows
import Derived.Test.YtbepibdjlajppaaDoorTie
import Derived.Test.YtbepibdjlajppaaDoorCards
import Derived.Lay
import Derived.Shelf.Vars
import Derived.Lib.LaidU8
import Derived.LaidMore
import Derived.SevenTiedAt
set_option linter.unusedVariables false
set_option linter.unusedSimpArgs false
namespace Go.Proofs.YtbepibdjlajppaaDoor.ellipBack
open Go Go.ChangeShapes Go.WideShapes Go.ChangeAt Go.RowKit Sx

set_option maxRecDepth 100000 in
theorem eq_same (x y : Operand) (a b c d e : Int) : BinIs Tryd.prog .eql 27 x y (.agg #[.int .i64 a, .int .i64 b, .int .i64 c, .int .i64 d, .int .i64 e]) (.agg #[.int .i64 a, .int .i64 b, .int .i64 c, .int .i64 d, .int .i64 e]) (.bool true) :=
  ⟨rfl, rfl, rfl, fun w => by go_simp⟩
set_option maxRecDepth 100000 in
set_option maxHeartbeats 2000000 in
theorem walk (x y a b d : Int) (hx : Fits x) (hy : Fits y) (ha : Fits a) (hb : Fits b) (hd : Fits d) (W : World) (hW : TxOK W) :
    Calls Tryd.prog 3 #[.agg #[.int .i64 x, .int .i64 y, .int .i64 a, .int .i64 b, .int .i64 d]] W fun o W' => o = .returned (.bool true) ∧ Below W.heap.size W W' := by
  by_cases hm : mayP x y a b d
  · refine calls_old (G := tys) (vs := [.agg #[.int .i64 x, .int .i64 y, .int .i64 a, .int .i64 b, .int .i64 d]]) W tysOK mixed Tryd.func3 (by rfl) hW.pos rfl rfl ?_
    repeat' (refine N.go ?_; first | with_reducible refine N.obl (by decide) ?_ | with_reducible refine N.obl (flat_wi _ _ _) ?_ | with_reducible refine N.obl (flat_lim _ _) ?_ | with_reducible refine N.eq ?_ | with_reducible refine N.obl rfl ?_ | with_reducible refine N.obl ⟨by kernel_rfl, by kernel_rfl⟩ ?_ | with_reducible refine N.alt ?_ | with_reducible refine N.forkT ?_ | with_reducible refine N.forkF ?_ | refine N.call (cText W hW x y a b d hx hy ha hb hd 0 _ (by rfl)) ?_ | refine N.call (cParseY W hW x y a b d hx hy ha hb hd hm 0 _ (by rfl)) ?_ | refine N.call (cParseN W hW x y a b d hx hy ha hb hd hm 0 _ (by rfl)) ?_ | refine N.call (cEMay _ _ _ _ _ _) ?_ | refine N.call (cAwake4 _) ?_ | refine N.bin _ (eq_same _ _ _ _ _ _ _) ?_ | refine N.forkNo (by rw [decide_eq_true hm]; rfl) ?_ | refine N.forkYes (by rw [decide_eq_false hm]; rfl) ?_ | refine N.forkNo (by decide) ?_ | refine N.forkYes (by decide) ?_ | exact N.mk ⟨rfl, rfl⟩ | fail_if_success skip)
  · refine calls_old (G := tys) (vs := [.agg #[.int .i64 x, .int .i64 y, .int .i64 a, .int .i64 b, .int .i64 d]]) W tysOK mixed Tryd.func3 (by rfl) hW.pos rfl rfl ?_
    repeat' (refine N.go ?_; first | with_reducible refine N.obl (by decide) ?_ | with_reducible refine N.obl (flat_wi _ _ _) ?_ | with_reducible refine N.obl (flat_lim _ _) ?_ | with_reducible refine N.eq ?_ | with_reducible refine N.obl rfl ?_ | with_reducible refine N.obl ⟨by kernel_rfl, by kernel_rfl⟩ ?_ | with_reducible refine N.alt ?_ | with_reducible refine N.forkT ?_ | with_reducible refine N.forkF ?_ | refine N.call (cText W hW x y a b d hx hy ha hb hd 0 _ (by rfl)) ?_ | refine N.call (cParseY W hW x y a b d hx hy ha hb hd hm 0 _ (by rfl)) ?_ | refine N.call (cParseN W hW x y a b d hx hy ha hb hd hm 0 _ (by rfl)) ?_ | refine N.call (cEMay _ _ _ _ _ _) ?_ | refine N.call (cAwake4 _) ?_ | refine N.bin _ (eq_same _ _ _ _ _ _ _) ?_ | refine N.forkNo (by rw [decide_eq_true hm]; rfl) ?_ | refine N.forkYes (by rw [decide_eq_false hm]; rfl) ?_ | refine N.forkNo (by decide) ?_ | refine N.forkYes (by decide) ?_ | exact N.mk ⟨rfl, rfl⟩ | fail_if_success skip)
theorem fits_wf {n : Int} (w : (Lit.int .i64 n).wf) : Fits n := by
  have : -9223372036854775808 ≤ n ∧ n ≤ 9223372036854775807 := by simpa [Lit.wf, IntKind.min, IntKind.max, IntKind.signed, IntKind.bits] using w
  exact this
set_option maxRecDepth 100000 in
theorem open_ell {H : Type} {enc : TypeId × Value → H} {W : World} {r : Reach} {base : Nat} {v : Value} {d : DataW H} {p : List MemPlace}
    (hv : Value.okWide Tryd.prog W r base 27 v) (h : DataW.Trod enc Tryd.prog W 0 (fun _ => true) true 27 v d p) :
    ∃ x0 x1 x2 x3 x4 : Int, v = .agg #[.int .i64 x0, .int .i64 x1, .int .i64 x2, .int .i64 x3, .int .i64 x4] ∧ Fits x0 ∧ Fits x1 ∧ Fits x2 ∧ Fits x3 ∧ Fits x4 := by
  obtain ⟨cs, rfl, hs⟩ := okWide_struct Tryd.underlying27 hv
  have hs2 : cs.size = 5 := hs.trans (by kernel_rfl)
  obtain ⟨l⟩ := cs
  match l, hs2 with
  | [c0, c1, c2, c3, c4], _ =>
    obtain ⟨fuel, hf⟩ := h
    have hf' : DataW.trod enc Tryd.prog W 0 (fun _ => true) true fuel 27 [c0, c1, c2, c3, c4] = some (d, p) := hf
    obtain ⟨k0, w0⟩ := leaf_int (d := 3) (l := 2) (j := 0) (u := c0) (by kernel_rfl) (@Tryd.underlying2) rfl hf'
    obtain ⟨k1, w1⟩ := leaf_int (d := 3) (l := 2) (j := 1) (u := c1) (by kernel_rfl) (@Tryd.underlying2) rfl hf'
    obtain ⟨k2, w2⟩ := leaf_int (d := 3) (l := 2) (j := 2) (u := c2) (by kernel_rfl) (@Tryd.underlying2) rfl hf'
    obtain ⟨k3, w3⟩ := leaf_int (d := 3) (l := 2) (j := 3) (u := c3) (by kernel_rfl) (@Tryd.underlying2) rfl hf'
    obtain ⟨k4, w4⟩ := leaf_int (d := 3) (l := 2) (j := 4) (u := c4) (by kernel_rfl) (@Tryd.underlying2) rfl hf'
    exact ⟨intOf c0, intOf c1, intOf c2, intOf c3, intOf c4, by conv => lhs; rw [k0, k1, k2, k3, k4], fits_wf w0, fits_wf w1, fits_wf w2, fits_wf w3, fits_wf w4⟩
theorem tab_agg {W : World} {zs : List Int} (h : Lib.VarReads Tryd.prog W "internal/strconv.uint64pow10" (Lib.tabData .u64 zs)) (hn : zs.length = 20) : Lib.TabIs Tryd.prog W "internal/strconv.uint64pow10" .u64 zs := by
  obtain ⟨g, t, cs, fuel, p, hg, ht, hvar, hd⟩ := h
  obtain rfl := Option.some.inj ((show Tryd.prog.globalNamed "internal/strconv.uint64pow10" = some 1 by kernel_rfl).symm.trans hg)
  obtain rfl := Option.some.inj ((show (Tryd.prog.globals[1]?).map (·.type) = some 88 by kernel_rfl).symm.trans ht)
  unfold Lib.TabIs
  rw [hvar, ← Lib.cells_of_tab (n := 20) (e := 42) (by kernel_rfl) (by kernel_rfl) (by kernel_rfl) (by kernel_rfl) hd]
theorem tx_of {W : World} (hL : laidMetH Tryd.prog Rows.ellipBackRow.laid W) (hs : W.ShapedOpen Tryd.prog) : TxOK W := by
  rw [MakeChecks.laidMetH_plain _ _ _ (by kernel_rfl)] at hL
  obtain ⟨m, hm⟩ := Go.Proofs.cell_of_shapedOpen_int (g := 0) (zero := #[.int .i64 0]) (t := 3) hs (of_decide_eq_true (by kernel_rfl)) (by kernel_rfl) rfl (by kernel_rfl) (by kernel_rfl) Tryd.underlying3
  exact ⟨by have := World.block_lt_of_cell? _ _ hm; omega, tab_agg (Lib.laidMet.reads hL (.tail _ (.tail _ (.head _)))) rfl, m, hm⟩
set_option maxRecDepth 100000 in
theorem run {H : Type} {enc : TypeId × Value → H} (W : World) (base : Nat) (args : Array Value) (ds gs : List (DataW H)) (before : List MemPlace)
    (hval : ∀ (j : Nat) t v, Tryd.f3.params[j]? = some t → args[j]? = some v → Value.okWide Tryd.prog W .any base t v)
    (hW : DataW.Whole enc Tryd.prog Tryd.f3.params.toList Rows.ellipBackSpec.vars false W args.toList ds gs before) (hL : laidMetH Tryd.prog Rows.ellipBackRow.laid W) (hs : W.ShapedOpen Tryd.prog) :
    Calls Tryd.prog 3 args W fun e W' => ∃ v, e = .returned v ∧ Rows.ellipBackSpec.post enc Tryd.prog Tryd.f3 false true false false W args v W' := by
  have hW' := hW
  obtain ⟨p, q, hA0, hV, rfl, _, _⟩ := hW
  have hA : DataW.TrodAll enc Tryd.prog W 0 (fun _ => true) true Tryd.f3.params.toList args.toList ds p := hA0
  rw [Tryd.params3] at hA hval
  obtain ⟨v0, vs0, d0, ds0, p0, q0, hargs, rfl, rfl, h0, r0⟩ := trodAll_cons hA
  obtain ⟨rfl, rfl, rfl⟩ := trodAll_nil r0
  obtain rfl : args = #[v0] := by cases args; simp_all
  obtain ⟨rfl, rfl⟩ := trodVars_none hV
  obtain ⟨x, y, a, b, d, rfl, hx, hy, ha, hb, hd⟩ := open_ell (hval 0 _ v0 rfl rfl) h0
  refine (walk x y a b d hx hy ha hb hd W (tx_of hL hs)).mono fun e W' ⟨he, bel⟩ => ?_
  subst he
  have hl : laidOutB Tryd.prog = true := Tryd.laidOut
  refine ⟨_, rfl, [d0], [], (p0 ++ []) ++ [], [], p0 ++ [], [], hW', trodAll_mk1 (shut_bool Tryd.underlying4 _), ?_, rfl, bel.frame _, fun h => by cases h⟩
  exact trodAll_kept hl bel _ _ _ _ (fun t ht => by
    have hr : (Tryd.f3.params.toList.all (fun t => Tryd.prog.readableRec t && decide (t < Tryd.prog.types.size))) = true := by kernel_rfl
    have := List.all_eq_true.1 hr t ht
    simpa using this) hA0
theorem own : ownKnob Tryd.prog.godebug = none := by kernel_rfl
set_option maxRecDepth 100000 in
theorem lifted (os : Os) (started : os.Started) (H : Type) (enc : TypeId × Value → H) :
    ReturnsInHanded {} Tryd.checked os 3 .any (fun w args => (Rows.ellipBackSpec.pre enc Tryd.prog Tryd.f3 [] false w args ∧ laidMetH Tryd.prog Rows.ellipBackRow.laid w) ∧ sizedMet enc Tryd.prog Tryd.f3 (OpenSpec.ofChange Rows.ellipBackSpec) false w args)
      (Rows.ellipBackSpec.post enc Tryd.prog Tryd.f3 false true false false) := by
  refine returnsInHanded_of_calls own started (by kernel_rfl)
    (ChangeSpec.witness_shaped (enc := enc) (C := Tryd.checked) (os := os) (X := fun w _ => laidMetH Tryd.prog Rows.ellipBackRow.laid w) false (World.laidAll Tryd.prog os Rows.ellipBackRow.laid) #[.agg #[.int .i64 0, .int .i64 0, .int .i64 0, .int .i64 0, .int .i64 0]] 8 (World.laidAll_os _ _ _)
      (World.shaped_of_ZipB (by kernel_rfl) (by kernel_rfl)) (by kernel_rfl) (by kernel_rfl) (by kernel_rfl)
      (by rw [MakeChecks.laidMetH_plain _ _ _ (by kernel_rfl)]; exact laidMet_laidAll _ (by kernel_rfl) (by kernel_rfl))) ?_
  intro w tape i _ hsh _ hok hpre hholds
  obtain ⟨_, _, _, fn', hfn', _, _, _, _, hval⟩ := hok
  obtain rfl : fn' = Tryd.f3 := (Option.some.inj (Tryd.func3.symm.trans hfn')).symm
  obtain ⟨⟨⟨ds, gs, before, hw0, hc⟩, hx⟩, hz⟩ := hpre
  have hW := DataW.Whole.of_heap (w' := w.forCall tape i) (by rfl) hw0
  have hL : laidMetH Tryd.prog Rows.ellipBackRow.laid (w.forCall tape i) := laidMetH.of_heap (by rfl) hx
  refine (run (w.forCall tape i) w.heap.size i.args ds gs before hval hW hL hsh).mono fun e W' ⟨v, he, hp⟩ => ?_
  subst he
  exact ChangeSpec.post_blind hp
theorem holds : Rows.EllipBackSaid :=
  OpenClaim.holds_of_wide 3 Tryd.f3 rfl rfl rfl rfl rfl rfl rfl ⟨rfl, rfl, rfl, rfl, rfl⟩ rfl rfl rfl rfl rfl (by kernel_rfl) Tryd.func3 (by kernel_rfl)
    (of_decide_eq_true (by kernel_rfl)) (by unfold Func.isWrapper; first | (rw [if_pos (by decide +kernel)]; kernel_rfl) | (rw [if_neg (by decide +kernel)]; exact ⟨rfl, rfl⟩))
    (fun os started H enc _ => lifted os started H enc)
theorem proved : Rows.EllipBackCardSaid :=
  Claim7.holds_tied_plain_at .later [] [.data, .data, .data, .data, .sentinel, .sentinel, .pinned] true (true, "16a6b6a4823672dc16f6f1df3cdaa813fac78759cebe465f543715a045f9dff2") true holds (fun _ h => by cases h) (by kernel_rfl) (fun _ h => by cases h) ellipBack_row_tie rfl ⟨rfl, rfl⟩ (by kernel_rfl) rfl
    (fun f fn hf hfn => by
      obtain rfl : f = 3 := Option.some.inj ((show Tryd.prog.funcNamed "alidade/alidadelaw4.EllipBack" = some 3 by kernel_rfl).symm.trans hf) |>.symm
      obtain rfl : fn = Tryd.f3 := (Option.some.inj (Tryd.func3.symm.trans hfn)).symm
      exact ⟨by kernel_rfl, fun j t ht => by
        rw [Tryd.params3] at ht
        have hm : t ∈ [27] := by simpa using Array.mem_of_getElem? ht
        have hall : ([27].all fun u => !Tryd.prog.wantsStandIn u) = true := by kernel_rfl
        exact (show Tryd.prog.wantsStandIn t = false by simpa using List.all_eq_true.1 hall t hm)⟩)
    (by kernel_rfl)
#print axioms proved
end Go.Proofs.YtbepibdjlajppaaDoor.ellipBack
