/-
  The statement FleetDrops: for every input the law returns true.
-/
import Derived.Test.YtdljelmbjdjpjaaGreatRows
import Derived.Test.YtdljelmbjdjpjaaGreatM8
set_option linter.unusedVariables false
set_option linter.unusedSimpArgs false
set_option maxRecDepth 100000
set_option maxHeartbeats 20000000

namespace Go.Proofs.YtdljelmbjdjpjaaGreat.fleetDrops
open Go Go.ChangeShapes Go.WideShapes Go.ChangeAt Go.RowKit Sx
theorem lightnil_x (w:World):Calls Tryz.prog 6 #[.slice none 0 0] w fun e w'=>e=.returned (.bool true)∧Below w.heap.size w w':=by
 refine calls_pure (G:=tys) w tysOK mixed Tryz.func6 (by rfl) (by rfl) (by rfl) ?_
 repeat' (refine N.go ?_;first|with_reducible refine N.eq ?_|refine N.roll 1 ?_|refine N.forkNo (by decide) ?_|fail)
 all_goals rfl
theorem cLightNil (h:Hp):CallOK Tryz.prog 6 [.slice none 0 0] h (.bool true) [] []:=call_pure rfl rfl (Tryz.call6 _) lightnil_x
theorem walkNil (nd sp er ev:Int) (W:World):Calls Tryz.prog 4 #[.int .i64 nd,.int .i64 sp,.int .i64 er,.int .i64 ev,.slice none 0 0] W fun e w'=>e=.returned (.bool true)∧Below W.heap.size W w':=by
 have hC:CfOK (cf6 nd 4 sp er ev 5):=cf6_ok nd 4 sp er ev 5
 have h9:2≤(cf6 nd 4 sp er ev 5) 9:=by show 2≤1+md 5 8;decide
 obtain⟨n,hn,hn8⟩:∃ n:Nat,(cf6 nd 4 sp er ev 5) 0=(n:Int)∧1≤n∧n≤8:=by
  have:=md_b nd 8 (by decide) (by decide)
  exact⟨(1+md nd 8).toNat,by show 1+md nd 8=_;omega,by omega,by omega⟩
 refine calls_pure (G:=tys) W tysOK mixed Tryz.func4 (by rfl) (by rfl) (by rfl) ?_
 repeat' (refine N.go ?_;first|with_reducible refine N.obl rfl ?_|refine N.call (cLightNil _) ?_|refine N.call (cConfig nd 4 sp er ev 5 _) ?_|refine N.forkNo (by decide) ?_|fail)
 refine N.go ?_
 refine N.callAll (cFlNew (cf6 nd 4 sp er ev 5) hC (may_cf hC) n hn hn8.2 (by show(200:Int)≤1000000000000;decide) 6 7 (by decide) _ (by rfl) (by rfl)) fun v ms hR=>?_
 obtain⟨g,rfl,rfl⟩:=hR
 repeat' (refine N.go ?_;first|with_reducible refine N.obl rfl ?_|fail)
 refine N.go ?_
 refine N.callAll (cFlNew (cf6 nd 4 sp er ev 5) hC (may_cf hC) n hn hn8.2 (by show(200:Int)≤1000000000000;decide) 9 10 (by decide) _ (by rfl) (by rfl)) fun v ms hR=>?_
 obtain⟨g2,rfl,rfl⟩:=hR
 repeat' (refine N.go ?_;first|with_reducible refine N.forkF ?_|refine N.forkNo (by decide) ?_|fail)
 refine N.go ?_
 refine N.roll 1 ?_
 repeat' (refine N.go ?_;first|refine N.forkNo (by decide) ?_|fail)
 refine N.go ?_
 refine N.loopR (α:=Nat) (fun m=>m≤n) (fun m=>n-m) (fun m=>[(92,.int .i64 (m:Int))]) (fun m=>[]) 0 [(4,4),(6,6),(7,7),(9,9),(10,10)] (Nat.zero_le _) ?_ ?_
 ·repeat' (refine N.go ?_;first|exact N.true|refine N.obl (@ChunkReLe.mk _ _ _ ⟨.inr rfl⟩ id (nlr _) (nzj)) ?_|refine N.obl (.plain (by rfl)) ?_|refine N.obl (.one (.ptr rfl)) ?_|refine N.obl (ChunkReLe.same (agg_plain (by rfl) (by rfl))) ?_|refine N.obl (.tuple ⟨.ptr rfl,.plain rfl,trivial⟩) ?_|fail)
 intro m hmn
 have hmn:m≤n:=hmn
 by_cases hm:m<n
 ·have ej:((m+1:Nat):Int)=IntKind.i64.wrap ((m:Int)+1):=by rw[i64s _ (by omega) (by omega)];omega
  have ok:=(fnew_ok (cf6 nd 4 sp er ev 5) hC h9 n (by omega)).nd m hm
  have hE:((fnew (cf6 nd 4 sp er ev 5) n g).s m).T.E=[]:=ok.E
  repeat' (refine N.go ?_;first|with_reducible (first|refine N.obl rfl ?_|refine N.forkF ?_)|refine N.forkNo (by decide) ?_|refine N.forkYes (decide_eq_true (by show _<_;omega)) ?_|refine N.call (cFlNodeK (fnew (cf6 nd 4 sp er ev 5) n g) m hm 6 _ (by rfl)) ?_|refine N.call (cFlReportK (fnew (cf6 nd 4 sp er ev 5) n g) m hm hE 6 12 _ (by rfl) (by rfl)) ?_|refine N.call (cFlNodeK (fnew (cf6 nd 4 sp er ev 5) n g2) m hm 9 _ (by rfl)) ?_|refine N.call (cFlReportK (fnew (cf6 nd 4 sp er ev 5) n g2) m hm hE 9 12 _ (by rfl) (by rfl)) ?_|refine N.forkNo (neSelfB _) ?_|refine N.bin _ (ne_ell _ _ _ _ _ _ _ _ _ _ _ _) ?_|refine N.forkNo (negSelf5 _ _ _ _ _) ?_|refine N.call (cSameNil _) ?_|fail)
  refine N.go ?_
  refine N.nextR (α:=Nat) (m+1) [(4,4),(6,6),(7,7),(9,9),(10,10)] ⟨hm,by show n-(m+1)<n-m;omega⟩ ?_
  repeat' (refine N.go ?_;first|exact N.true|refine N.obl (@ChunkReLe.mk _ _ _ ⟨.inr rfl⟩ id (nlr _) (nzj)) ?_|refine N.obl (.plain (by rfl)) ?_|refine N.obl (.one (.ptr rfl)) ?_|refine N.obl (reF_eqn (intF_eqn ej) rfl) ?_|refine N.obl (ChunkReLe.same (agg_plain (by rfl) (by rfl))) ?_|refine N.obl (.tuple ⟨.ptr rfl,.plain rfl,trivial⟩) ?_|fail)
 ·repeat' (refine N.go ?_;first|with_reducible (first|refine N.eq ?_|refine N.forkT ?_)|refine N.forkNo (decide_eq_false (by show ¬ _<_;omega)) ?_|refine N.call (cFlLenK (fnew (cf6 nd 4 sp er ev 5) n g) (show 0<n by omega) 6 _ (by rfl)) ?_|refine N.forkYes (by rfl) ?_|refine N.call (cFlTimeK (fnew (cf6 nd 4 sp er ev 5) n g) (show 0<n by omega) 6 _ (by rfl)) ?_|refine N.call (cFlTimeK (fnew (cf6 nd 4 sp er ev 5) n g2) (show 0<n by omega) 9 _ (by rfl)) ?_|with_reducible refine N.call (cAwake25 _) ?_|fail)
  all_goals rfl
theorem lifted (os:Os) (started:os.Started) (H:Type) (enc:TypeId×Value→H) :
  ReturnsInHanded {} Tryz.checked os 4 .any (Rows.fleetDropsSpec.pre6 enc Tryz.prog Tryz.f4 Rows.fleetDropsRow.domain false) (Rows.fleetDropsSpec.post enc Tryz.prog Tryz.f4 false true false false):=by
 refine law_lifted (C:=Tryz.checked) (tb:=4) Tryz.own started (by kernel_rfl) Tryz.func4 Tryz.laidOut (by kernel_rfl) rfl Tryz.underlying4 rfl
  (fun ds hds=>by match ds,hds with|[_,_,_,_,_],_=>rfl)
  (ChangeSpec.witness6 (enc:=enc) (C:=Tryz.checked) false ⟨#[],#[.int .i64 0,.int .i64 0,.int .i64 0,.int .i64 0,.slice none 0 0],[]⟩ 8 (by kernel_rfl) (by kernel_rfl) (by kernel_rfl) (by kernel_rfl)) ?_
 intro W base args ds p hval0 hA0 hsz0
 have hval:∀ (j:Nat) t v,Tryz.f4.params[j]?=some t→args[j]?=some v→Value.okWide Tryz.prog W .any base t v:=hval0
 have hA:DataW.TrodAll enc Tryz.prog W 0 (fun _=>true) true Tryz.f4.params.toList args.toList ds p:=hA0
 have hsz:(DataW.weightsEach Tryz.prog Tryz.f4.params.toList ds).all (·≤reachBytes)=true:=hsz0
 rw[Tryz.params4] at hA hval hsz
 obtain⟨v0,vs0,d0,ds0,p0,q0,hargs,rfl,rfl,h0,r0⟩:=trodAll_cons hA
 obtain⟨v1,vs1,d1,ds1,p1,q1,rfl,rfl,rfl,h1,r1⟩:=trodAll_cons r0
 obtain⟨v2,vs2,d2,ds2,p2,q2,rfl,rfl,rfl,h2,r2⟩:=trodAll_cons r1
 obtain⟨v3,vs3,d3,ds3,p3,q3,rfl,rfl,rfl,h3,r3⟩:=trodAll_cons r2
 obtain⟨v4,vs4,d4,ds4,p4,q4,rfl,rfl,rfl,h4,r4⟩:=trodAll_cons r3
 obtain⟨rfl,rfl,rfl⟩:=trodAll_nil r4
 obtain rfl:args = #[v0,v1,v2,v3,v4]:=by cases args;simp_all
 obtain⟨a0,rfl,rfl,rfl,w0⟩:=open_int Tryz.underlying3 (hval 0 _ v0 rfl rfl) h0
 obtain⟨a1,rfl,rfl,rfl,w1⟩:=open_int Tryz.underlying3 (hval 1 _ v1 rfl rfl) h1
 obtain⟨a2,rfl,rfl,rfl,w2⟩:=open_int Tryz.underlying3 (hval 2 _ v2 rfl rfl) h2
 obtain⟨a3,rfl,rfl,rfl,w3⟩:=open_int Tryz.underlying3 (hval 3 _ v3 rfl rfl) h3
 rcases open_spsM (hval 4 _ v4 rfl rfl) h4 with rfl|⟨b,o,n,cap,C,B,rfl,hm,hb,hC⟩
 ·exact walkNil a0 a1 a2 a3 W
 exact walkD b o n cap C B a0 a1 a2 a3 W hb hC hm
theorem proved:Rows.FleetDropsSaid:=
 OpenClaim.holds_of_wide 4 Tryz.f4 rfl rfl rfl rfl rfl rfl rfl ⟨rfl,rfl,rfl,rfl,rfl⟩ rfl rfl rfl rfl rfl (by kernel_rfl) Tryz.func4 (by kernel_rfl)
  (of_decide_eq_true (by kernel_rfl)) (by unfold Func.isWrapper;rw[if_neg (by decide +kernel)];exact⟨rfl,rfl⟩)
  (fun os started H enc _=>lifted os started H enc)
#print axioms proved
end Go.Proofs.YtdljelmbjdjpjaaGreat.fleetDrops
