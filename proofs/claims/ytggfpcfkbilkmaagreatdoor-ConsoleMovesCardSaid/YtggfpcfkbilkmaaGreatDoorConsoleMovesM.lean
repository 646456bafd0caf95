/-
  The statement ConsoleMoves: for every list of movements the law returns true: a node that jb5 as it is told is at the sum of its movements, and the console stays sure. The card: the listed tables lie as the program's own text lays them.
-/
import Derived.Test.YtggfpcfkbilkmaaGreatDoorFaConsoleMovesA
import Derived.Test.YtggfpcfkbilkmaaGreatDoorFaConsoleMovesB
import Derived.Test.YtggfpcfkbilkmaaGreatDoorFaConsoleMovesC
import Derived.Test.YtggfpcfkbilkmaaGreatDoorFaConsoleMovesD
import Derived.Test.YtggfpcfkbilkmaaGreatDoorFaConsoleMovesE
import Derived.Test.YtggfpcfkbilkmaaGreatDoorFaConsoleMovesF
import Derived.Test.YtggfpcfkbilkmaaGreatDoorRows
import Derived.Test.YtggfpcfkbilkmaaGreatDoorTie
import Derived.Test.YtggfpcfkbilkmaaGreatDoorCards
import Derived.Lay
import Derived.Shelf.Vars
import Derived.Lib.LaidU8
import Derived.LaidMore
import Derived.SevenTiedAt
import Derived.Test.YtggfpcfkbilkmaaGreatDoorD8
set_option linter.unusedVariables false
set_option linter.unusedSimpArgs false
set_option maxRecDepth 100000
set_option maxHeartbeats 20000000
open Go.Proofs.Tryz

namespace Go.Proofs.YtggfpcfkbilkmaaGreatDoor.consoleMoves
open Go Go.ChangeShapes Go.WideShapes Go.ChangeAt Go.RowKit Sx
theorem fits_wf{n:Int}(w:(Lit.int .i64 n).wf):q35 n:=by
 have : -9223372036854775808<=n/\n<=9223372036854775807:=by simpa[Lit.wf,IntKind.min,IntKind.max,IntKind.signed,IntKind.bits] using w
 exact this
theorem open_str{H:Type}{enc:TypeId×Value->H}{W:World}{r:Reach}{b0 base:Nat}{sp:Nat->Bool}{held:Bool}{v:Value}{d:DataW H}{ps:List MemPlace}(hval:Value.okWide prog W r b0 9 v)(hd:DataW.Trod enc prog W base sp held 9 v d ps):∃s:ByteArray,v=.string s/\s.size<=9223372036854775807:=by
 obtain⟨s,h1,_,_,hs⟩:=ChangeMaps.open_string (P:=prog) (t:=9) (v:=v) (d:=d) underlying9 hval hd;exact⟨s,h1,hs⟩
theorem tab_agg{W : World}{zs : List Int}(h : Lib.VarReads prog W "internal/strconv.uint64pow10" (Lib.tabData .u64 zs))(hn : zs.length = 20): Lib.TabIs prog W "internal/strconv.uint64pow10" .u64 zs := by
 obtain⟨g,t,cs,fuel,p,hg,ht,hvar,hd⟩:=h;obtain rfl := Option.some.inj ((show prog.globalNamed "internal/strconv.uint64pow10" = some 0 by kernel_rfl).symm.trans hg);obtain rfl:=Option.some.inj ((show(prog.globals[0]?).map (·.type)=some 158 by kernel_rfl).symm.trans ht);unfold Lib.TabIs;rw[hvar,<-Lib.cells_of_tab (n:=20) (e:=31) Q4U Q4U Q4U Q4U hd]
theorem err_agg{W:World}{nm:String}{g:Nat}{nm2:String}{d:DataW Unit}(h:Lib.VarReads prog W nm (.iface nm2 d))(hg':prog.globalNamed nm=some g)(ht':(prog.globals[g]?).map (·.type)=some 169):∃ev,W.cell? ⟨g,0,none⟩=some ev/\(ev=.nilIface\/∃te pe,ev=.iface te pe):=by
 obtain⟨g2,t,cs,fuel,p,hg,ht,hvar,hd⟩:=h;obtain rfl:=Option.some.inj (hg'.symm.trans hg);obtain rfl:=Option.some.inj (ht'.symm.trans ht);obtain⟨_,u,v,hcs,_,_⟩:=iface_of_trod underlying169 hd;refine⟨.iface u v,?_,.inr ⟨u,v,rfl⟩⟩;unfold World.var? at hvar;rw[hg'] at hvar;simp only[Option.bind_some] at hvar;cases hw:W.heap[g]? with
 | none=>rw[hw] at hvar;cases hvar
 | some o=>
  rw[hw] at hvar;cases o<;>simp at hvar
  subst hvar;simp only[World.cell?,hw];rw[<-Array.getElem?_toList,hcs];rfl
theorem tx_of{W:World}(hL:laidMetH prog Rows.consoleMovesRow.laid W)(hs:W.ShapedOpen prog):TxOK W/\jb7 W:=by
 rw[MakeChecks.laidMetH_plain _ _ _ Q4U] at hL;obtain⟨m,hm⟩:=Go.Proofs.cell_of_shapedOpen_int (g:=1) (zero:=#[xc 0]) (t:=3) hs (of_decide_eq_true Q4U) Q4U rfl Q4U Q4U underlying3;exact⟨⟨by have:=World.block_lt_of_cell? _ _ hm;omega,tab_agg (Lib.laidMet.reads hL (.tail _ (.tail _ (.head _)))) rfl,m,hm⟩,err_agg (Lib.laidMet.reads hL (.tail _ (.tail _ (.tail _ (.tail _ (.tail _ (.head _))))))) Q4U Q4U⟩
theorem run{H:Type}{enc:TypeId×Value->H}(W:World)(base:Nat)(args:Array Value)(ds gs:List (DataW H))(before:List MemPlace)
  (hval:∀(j:Nat) t v,Tryz.f3.params[j]?=some t->args[j]?=some v->Value.okWide prog W .any base t v)
  (hW:DataW.Whole enc prog Tryz.f3.params.toList Rows.consoleMovesSpec.vars false W args.toList ds gs before) (hL:laidMetH prog Rows.consoleMovesRow.laid W) (hs:W.ShapedOpen prog) :
  Calls prog 3 args W λe W'=>∃v,e=.returned v/\Rows.consoleMovesSpec.post enc prog Tryz.f3 false true false false W args v W':=by
 have hW':=hW
 obtain⟨p,q,hA0,hV,rfl,_,_⟩:=hW
 have hA:DataW.TrodAll enc prog W 0 (λ_=>true) true Tryz.f3.params.toList args.toList ds p:=hA0
 rw[Tryz.params3] at hA hval
 obtain⟨v0,vs0,d0,ds0,p0,q0,hargs,rfl,rfl,h0,r0⟩:=trodAll_cons hA
 obtain⟨rfl,rfl,rfl⟩:=trodAll_nil r0
 obtain rfl:args = #[v0]:=by cases args;simp_all
 obtain⟨rfl,rfl⟩:=trodVars_none hV
 have hw:xa 3 #[v0] W (.bool true):=by
  rcases qxk (hval 0 _ v0 rfl rfl) h0 with rfl|⟨b0,o,n,cap,z,rfl,hm,hb,hz⟩
  .exact qup W (tx_of hL hs).1
  .exact q3u b0 o n cap z hm W (tx_of hL hs).1 hz
 refine hw.mono λe W' ⟨he,bel⟩=>?_
 subst he
 have hl:laidOutB prog=true:=Tryz.laidOut
 refine⟨_,rfl,[d0],[],(p0++[])++[],[],p0++[],[],hW',trodAll_mk1 (shut_bool underlying4 _),?_,rfl,bel.frame _,λh=>by cases h⟩
 exact qgp hl bel _ _ _ _ (λt ht=>by
  have hr:(Tryz.f3.params.toList.all λt=>prog.readableRec t&&decide (t<prog.types.size))=true:=by kernel_rfl
  have:=xJ.1 hr t ht;simpa using this) hA0
theorem own:ownKnob prog.godebug=none:=by kernel_rfl
theorem lifted(os:Os)(started:os.Started)(H:Type)(enc:TypeId×Value->H):
  ReturnsInHanded {} Tryz.checked os 3 .any (λw args=>(Rows.consoleMovesSpec.pre enc prog Tryz.f3 [] false w args/\laidMetH prog Rows.consoleMovesRow.laid w)/\sizedMet enc prog Tryz.f3 (OpenSpec.ofChange Rows.consoleMovesSpec) false w args)
   (Rows.consoleMovesSpec.post enc prog Tryz.f3 false true false false):=by
 refine returnsInHanded_of_calls own started Q4U
  (ChangeSpec.witness_shaped (enc:=enc) (C:=Tryz.checked) (os:=os) (X:=λw _=>laidMetH prog Rows.consoleMovesRow.laid w) false (World.laidAll prog os Rows.consoleMovesRow.laid) #[.slice none 0 0] 8 (World.laidAll_os _ _ _)
   (World.shaped_of_ZipB Q4U Q4U) Q4U Q4U Q4U
   (by rw[MakeChecks.laidMetH_plain _ _ _ Q4U];exact laidMet_laidAll _ Q4U Q4U)) ?_
 intro w tape i _ hsh _ hok hpre hholds
 obtain⟨_,_,_,fn',hfn',_,_,_,_,hval⟩:=hok
 obtain rfl:fn'=Tryz.f3:=(Option.some.inj (func3.symm.trans hfn')).symm
 obtain⟨⟨⟨ds,gs,before,hw0,hc⟩,hx⟩,hz⟩:=hpre
 have hW:=DataW.Whole.of_heap (w':=w.forCall tape i) Q4R hw0
 have hL:laidMetH prog Rows.consoleMovesRow.laid (w.forCall tape i):=laidMetH.of_heap Q4R hx
 refine(run (w.forCall tape i) w.heap.size i.args ds gs before hval hW hL hsh).mono λe W' ⟨v,he,hp⟩=>?_
 subst he
 exact ChangeSpec.post_blind hp
theorem holds:Rows.ConsoleMovesSaid:=
 OpenClaim.holds_of_wide 3 Tryz.f3 rfl rfl rfl rfl rfl rfl rfl ⟨rfl,rfl,rfl,rfl,rfl⟩ rfl rfl rfl rfl rfl Q4U func3 (facts factA factB factC factD)
  (of_decide_eq_true Q4U) (by unfold Func.isWrapper;first|(rw[if_pos (by decide +kernel)];kernel_rfl)|(rw[if_neg (by decide +kernel)];exact⟨rfl,rfl⟩))
  (λos started H enc _=>lifted os started H enc)
theorem proved:Rows.ConsoleMovesCardSaid:=
 Claim7.holds_tied_plain_at .later [] [.data, .data, .data, .data, .sentinel, .sentinel, .pinned] true (true, "f56277e47947c11450e1778118f0eb81072f9d2a46bd1e719834254c2d8845c1") true holds (λ_ h => by cases h) Q4U (λ_ h => by cases h) consoleMoves_row_tie rfl ⟨rfl, rfl⟩ Q4U rfl
  (λf fn hf hfn=>by
   obtain rfl : f = 3 := Option.some.inj ((show prog.funcNamed "alidade/alidadelaw26.ConsoleMoves" = some 3 by kernel_rfl).symm.trans hf) |>.symm;obtain rfl:fn=Tryz.f3:=(Option.some.inj (func3.symm.trans hfn)).symm;exact⟨by kernel_rfl,λj t ht=>by
    rw[Tryz.params3] at ht;have hm:t∈[22]:=by simpa using Array.mem_of_getElem? ht
    have hall:([22].all λu=>!prog.wantsStandIn u)=true:=by kernel_rfl
    exact(show prog.wantsStandIn t=false by simpa using xJ.1 hall t hm)⟩)
  factF
#print axioms proved
end Go.Proofs.YtggfpcfkbilkmaaGreatDoor.consoleMoves
