/-
  The statement ConsoleNil: for every string and number the law returns true: the console that is not there, lines that are too long, empty or wrong. The card: the listed tables lie as the program's own text lays them.
-/
import Derived.Test.YtggfpcfkbilkmaaGreatDoorFaConsoleNilA
import Derived.Test.YtggfpcfkbilkmaaGreatDoorFaConsoleNilB
import Derived.Test.YtggfpcfkbilkmaaGreatDoorFaConsoleNilC
import Derived.Test.YtggfpcfkbilkmaaGreatDoorFaConsoleNilD
import Derived.Test.YtggfpcfkbilkmaaGreatDoorFaConsoleNilE
import Derived.Test.YtggfpcfkbilkmaaGreatDoorFaConsoleNilF
import Derived.Test.YtggfpcfkbilkmaaGreatDoorRows
import Derived.Test.YtggfpcfkbilkmaaGreatDoorTie
import Derived.Test.YtggfpcfkbilkmaaGreatDoorCards
import Derived.Lay
import Derived.Shelf.Vars
import Derived.Lib.LaidU8
import Derived.LaidMore
import Derived.SevenTiedAt
import Derived.Test.YtggfpcfkbilkmaaGreatDoorC8
set_option linter.unusedVariables false
set_option linter.unusedSimpArgs false
set_option maxRecDepth 100000
set_option maxHeartbeats 20000000
open Go.Proofs.Tryz

namespace Go.Proofs.YtggfpcfkbilkmaaGreatDoor.consoleNil
open Go Go.ChangeShapes Go.WideShapes Go.ChangeAt Go.RowKit Sx
theorem fits_wf{n:Int}(w:(Lit.int .i64 n).wf):q2z n:=by
 have : -9223372036854775808<=n/\n<=9223372036854775807:=by simpa[Lit.wf,IntKind.min,IntKind.max,IntKind.signed,IntKind.bits] using w
 exact this
theorem open_str{H:Type}{enc:TypeId×Value->H}{W:World}{r:Reach}{b0 base:Nat}{sp:Nat->Bool}{held:Bool}{v:Value}{d:DataW H}{ps:List MemPlace}(hval:Value.okWide prog W r b0 9 v)(hd:DataW.Trod enc prog W base sp held 9 v d ps):∃s:ByteArray,v=.string s/\s.size<=9223372036854775807:=by
 obtain⟨s,h1,_,_,hs⟩:=ChangeMaps.open_string (P:=prog) (t:=9) (v:=v) (d:=d) underlying9 hval hd;exact⟨s,h1,hs⟩
theorem tab_agg{W : World}{zs : List Int}(h : Lib.VarReads prog W "internal/strconv.uint64pow10" (Lib.tabData .u64 zs))(hn : zs.length = 20): Lib.TabIs prog W "internal/strconv.uint64pow10" .u64 zs := by
 obtain⟨g,t,cs,fuel,p,hg,ht,hvar,hd⟩:=h;obtain rfl := Option.some.inj ((show prog.globalNamed "internal/strconv.uint64pow10" = some 0 by kernel_rfl).symm.trans hg);obtain rfl:=Option.some.inj ((show(prog.globals[0]?).map (·.type)=some 158 by kernel_rfl).symm.trans ht);unfold Lib.TabIs;rw[hvar,<-Lib.cells_of_tab (n:=20) (e:=31) Q4Q Q4Q Q4Q Q4Q hd]
theorem err_agg{W:World}{nm:String}{g:Nat}{nm2:String}{d:DataW Unit}(h:Lib.VarReads prog W nm (.iface nm2 d))(hg':prog.globalNamed nm=some g)(ht':(prog.globals[g]?).map (·.type)=some 169):∃ev,W.cell? ⟨g,0,none⟩=some ev/\(ev=.nilIface\/∃te pe,ev=.iface te pe):=by
 obtain⟨g2,t,cs,fuel,p,hg,ht,hvar,hd⟩:=h;obtain rfl:=Option.some.inj (hg'.symm.trans hg);obtain rfl:=Option.some.inj (ht'.symm.trans ht);obtain⟨_,u,v,hcs,_,_⟩:=iface_of_trod underlying169 hd;refine⟨.iface u v,?_,.inr ⟨u,v,rfl⟩⟩;unfold World.var? at hvar;rw[hg'] at hvar;simp only[Option.bind_some] at hvar;cases hw:W.heap[g]? with
 | none=>rw[hw] at hvar;cases hvar
 | some o=>
  rw[hw] at hvar;cases o<;>simp at hvar
  subst hvar;simp only[World.cell?,hw];rw[<-y9,hcs];rfl
theorem tx_of{W:World}(hL:laidMetH prog Rows.consoleNilRow.laid W)(hs:W.ShapedOpen prog):TxOK W/\q4i W:=by
 rw[MakeChecks.laidMetH_plain _ _ _ Q4Q] at hL;obtain⟨m,hm⟩:=Go.Proofs.cell_of_shapedOpen_int (g:=1) (zero:=#[xc 0]) (t:=3) hs (of_decide_eq_true Q4Q) Q4Q rfl Q4Q Q4Q underlying3;exact⟨⟨by have:=World.block_lt_of_cell? _ _ hm;omega,tab_agg (Lib.laidMet.reads hL (.tail _ (.tail _ (.head _)))) rfl,m,hm⟩,err_agg (Lib.laidMet.reads hL (.tail _ (.tail _ (.tail _ (.tail _ (.tail _ (.head _))))))) Q4Q Q4Q⟩
theorem run{H:Type}{enc:TypeId×Value->H}(W:World)(base:Nat)(args:Array Value)(ds gs:List (DataW H))(before:List MemPlace)
  (hval:∀(j:Nat) t v,Tryz.f4.params[j]?=some t->args[j]?=some v->Value.okWide prog W .any base t v)
  (hW:DataW.Whole enc prog Tryz.f4.params.toList Rows.consoleNilSpec.vars false W args.toList ds gs before) (hL:laidMetH prog Rows.consoleNilRow.laid W) (hs:W.ShapedOpen prog) :
  Calls prog 4 args W λe W'=>∃v,e=.returned v/\Rows.consoleNilSpec.post enc prog Tryz.f4 false true false false W args v W':=by
 have hW':=hW
 obtain⟨p,q,hA0,hV,rfl,_,_⟩:=hW
 have hA:DataW.TrodAll enc prog W 0 (λ_=>true) true Tryz.f4.params.toList args.toList ds p:=hA0
 rw[Tryz.params4] at hA hval
 obtain⟨v0,v1,d0,d1,p0,p1,rfl,rfl,rfl,h0,h1⟩:=trodAll_two hA
 obtain⟨rfl,rfl⟩:=trodVars_none hV
 obtain⟨s,rfl,hss⟩:=open_str (hval 0 _ v0 rfl rfl) h0
 obtain⟨n,e1,_,_,w1⟩:=open_int underlying3 (hval 1 _ v1 rfl rfl) h1
 subst e1
 refine(jaq s n (fits_wf w1) W (tx_of hL hs).1 (tx_of hL hs).2).mono λe W' ⟨he,bel⟩=>?_
 subst he
 have hl:laidOutB prog=true:=Tryz.laidOut
 refine⟨_,rfl,[d0,d1],[],(p0++p1)++[],[],p0++p1,[],hW',trodAll_mk1 (shut_bool underlying4 _),?_,rfl,bel.frame _,λh=>by cases h⟩
 exact qgi hl bel _ _ _ _ (λt ht=>by
  have hr:(Tryz.f4.params.toList.all λt=>prog.readableRec t&&decide (t<prog.types.size))=true:=by kernel_rfl
  have:=xL.1 hr t ht;simpa using this) hA0
theorem own:ownKnob prog.godebug=none:=by kernel_rfl
theorem lifted(os:Os)(started:os.Started)(H:Type)(enc:TypeId×Value->H):
  ReturnsInHanded {} Tryz.checked os 4 .any (λw args=>(Rows.consoleNilSpec.pre enc prog Tryz.f4 [] false w args/\laidMetH prog Rows.consoleNilRow.laid w)/\sizedMet enc prog Tryz.f4 (OpenSpec.ofChange Rows.consoleNilSpec) false w args)
   (Rows.consoleNilSpec.post enc prog Tryz.f4 false true false false):=by
 refine returnsInHanded_of_calls own started Q4Q
  (ChangeSpec.witness_shaped (enc:=enc) (C:=Tryz.checked) (os:=os) (X:=λw _=>laidMetH prog Rows.consoleNilRow.laid w) false (World.laidAll prog os Rows.consoleNilRow.laid) #[.string ⟨#[]⟩,xc 0] 8 (World.laidAll_os _ _ _)
   (World.shaped_of_ZipB Q4Q Q4Q) Q4Q Q4Q Q4Q
   (by rw[MakeChecks.laidMetH_plain _ _ _ Q4Q];exact laidMet_laidAll _ Q4Q Q4Q)) ?_
 intro w tape i _ hsh _ hok hpre hholds
 obtain⟨_,_,_,fn',hfn',_,_,_,_,hval⟩:=hok
 obtain rfl:fn'=Tryz.f4:=(Option.some.inj (func4.symm.trans hfn')).symm
 obtain⟨⟨⟨ds,gs,before,hw0,hc⟩,hx⟩,hz⟩:=hpre
 have hW:=DataW.Whole.of_heap (w':=w.forCall tape i) Q4N hw0
 have hL:laidMetH prog Rows.consoleNilRow.laid (w.forCall tape i):=laidMetH.of_heap Q4N hx
 refine(run (w.forCall tape i) w.heap.size i.args ds gs before hval hW hL hsh).mono λe W' ⟨v,he,hp⟩=>?_
 subst he
 exact ChangeSpec.post_blind hp
theorem holds:Rows.ConsoleNilSaid:=
 OpenClaim.holds_of_wide 4 Tryz.f4 rfl rfl rfl rfl rfl rfl rfl ⟨rfl,rfl,rfl,rfl,rfl⟩ rfl rfl rfl rfl rfl Q4Q func4 (facts factA factB factC factD)
  (of_decide_eq_true Q4Q) (by unfold Func.isWrapper;first|(rw[if_pos (by decide +kernel)];kernel_rfl)|(rw[if_neg (by decide +kernel)];exact⟨rfl,rfl⟩))
  (λos started H enc _=>lifted os started H enc)
theorem proved:Rows.ConsoleNilCardSaid:=
 Claim7.holds_tied_plain_at .later [] [.data, .data, .data, .data, .sentinel, .sentinel, .pinned] true (true, "f56277e47947c11450e1778118f0eb81072f9d2a46bd1e719834254c2d8845c1") true holds (λ_ h => by cases h) Q4Q (λ_ h => by cases h) consoleNil_row_tie rfl ⟨rfl, rfl⟩ Q4Q rfl
  (λf fn hf hfn=>by
   obtain rfl : f = 4 := Option.some.inj ((show prog.funcNamed "alidade/alidadelaw26.ConsoleNil" = some 4 by kernel_rfl).symm.trans hf) |>.symm;obtain rfl:fn=Tryz.f4:=(Option.some.inj (func4.symm.trans hfn)).symm;exact⟨by kernel_rfl,λj t ht=>by
    rw[Tryz.params4] at ht;have hm:t∈[9,3]:=by simpa using Array.mem_of_getElem? ht
    have hall:([9,3].all λu=>!prog.wantsStandIn u)=true:=by kernel_rfl
    exact(show prog.wantsStandIn t=false by simpa using xL.1 hall t hm)⟩)
  factF
#print axioms proved
end Go.Proofs.YtggfpcfkbilkmaaGreatDoor.consoleNil
