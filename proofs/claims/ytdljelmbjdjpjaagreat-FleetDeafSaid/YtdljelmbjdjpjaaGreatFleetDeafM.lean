/-
  The statement FleetDeaf: for every input the law returns true.
-/
import Derived.Test.YtdljelmbjdjpjaaGreatRows
import Derived.Test.YtdljelmbjdjpjaaGreatK8
set_option linter.unusedVariables false
set_option linter.unusedSimpArgs false
set_option maxRecDepth 100000
set_option maxHeartbeats 20000000

namespace Go.Proofs.YtdljelmbjdjpjaaGreat.fleetDeaf
open Go Go.ChangeShapes Go.WideShapes Go.ChangeAt Go.RowKit Sx
theorem lightnil_x (w:World):Calls Tryz.prog 6 #[.slice none 0 0] w fun e w'=>e=.returned (.bool true)∧Below w.heap.size w w':=by
 refine qaf (G:=tys) w tysOK mixed Tryz.func6 (by rfl) (by rfl) (by rfl) ?_
 repeat' (refine N.go ?_;first|with_reducible refine N.eq ?_|refine N.roll 1 ?_|refine N.forkNo (by decide) ?_|fail)
 all_goals rfl
theorem cLightNil (h:Hp):qad Tryz.prog 6 [.slice none 0 0] h (.bool true) [] []:=qai rfl rfl (Tryz.call6 _) lightnil_x
theorem walkNil (nd sp er ev:Int) (W:World):Calls Tryz.prog 3 #[.int .i64 nd,.int .i64 sp,.int .i64 er,.int .i64 ev,.slice none 0 0] W fun e w'=>e=.returned (.bool true)∧Below W.heap.size W w':=by
 have hC:CfOK (cf6 nd 4 sp er ev 5):=qnc nd 4 sp er ev 5
 obtain⟨n,hn,hn8⟩:∃ n:Nat,(cf6 nd 4 sp er ev 5) 0=(n:Int)∧1≤n∧n≤8:=by
  have:=md_b nd 8 (by decide) (by decide)
  exact⟨(1+md nd 8).toNat,by show 1+md nd 8=_;omega,by omega,by omega⟩
 refine qaf (G:=tys) W tysOK mixed Tryz.func3 (by rfl) (by rfl) (by rfl) ?_
 repeat' (refine N.go ?_;first|with_reducible refine N.obl rfl ?_|refine N.call (cLightNil _) ?_|refine N.call (qor nd 4 sp er ev 5 _) ?_|refine N.forkNo (by decide) ?_|fail)
 refine N.go ?_
 refine N.callAll (qvn (cf6 nd 4 sp er ev 5) hC (qwe hC) n hn hn8.2 (by show(200:Int)≤1000000000000;decide) 6 7 (by decide) _ (by rfl) (by rfl)) fun v ms hR=>?_
 obtain⟨g,rfl,rfl⟩:=hR
 repeat' (refine N.go ?_;first|with_reducible (first|refine N.obl (by decide) ?_|refine N.eq ?_|refine N.forkF ?_)|refine N.roll 1 ?_|with_reducible refine N.call (qlh _) ?_|refine N.forkNo (by decide) ?_|fail)
 all_goals rfl
theorem lifted (os:Os) (started:os.Started) (H:Type) (enc:TypeId×Value→H) :
  ReturnsInHanded {} Tryz.checked os 3 .any (Rows.fleetDeafSpec.pre6 enc Tryz.prog Tryz.f3 Rows.fleetDeafRow.domain false) (Rows.fleetDeafSpec.post enc Tryz.prog Tryz.f3 false true false false):=by
 refine qq8 (C:=Tryz.checked) (tb:=4) Tryz.own started (by kernel_rfl) Tryz.func3 Tryz.laidOut (by kernel_rfl) rfl Tryz.underlying4 rfl
  (fun ds hds=>by match ds,hds with|[_,_,_,_,_],_=>rfl)
  (ChangeSpec.witness6 (enc:=enc) (C:=Tryz.checked) false ⟨#[],#[.int .i64 0,.int .i64 0,.int .i64 0,.int .i64 0,.slice none 0 0],[]⟩ 8 (by kernel_rfl) (by kernel_rfl) (by kernel_rfl) (by kernel_rfl)) ?_
 intro W base args ds p hval0 hA0 hsz0
 have hval:∀ (j:Nat) t v,Tryz.f3.params[j]?=some t→args[j]?=some v→Value.okWide Tryz.prog W .any base t v:=hval0
 have hA:DataW.TrodAll enc Tryz.prog W 0 (fun _=>true) true Tryz.f3.params.toList args.toList ds p:=hA0
 have hsz:(DataW.weightsEach Tryz.prog Tryz.f3.params.toList ds).all (·≤reachBytes)=true:=hsz0
 rw[Tryz.params3] at hA hval hsz
 obtain⟨v0,vs0,d0,ds0,p0,q0,hargs,rfl,rfl,h0,r0⟩:=trodAll_cons hA
 obtain⟨v1,vs1,d1,ds1,p1,q1,rfl,rfl,rfl,h1,r1⟩:=trodAll_cons r0
 obtain⟨v2,vs2,d2,ds2,p2,q2,rfl,rfl,rfl,h2,r2⟩:=trodAll_cons r1
 obtain⟨v3,vs3,d3,ds3,p3,q3,rfl,rfl,rfl,h3,r3⟩:=trodAll_cons r2
 obtain⟨v4,vs4,d4,ds4,p4,q4,rfl,rfl,rfl,h4,r4⟩:=trodAll_cons r3
 obtain⟨rfl,rfl,rfl⟩:=trodAll_nil r4
 obtain rfl:args = #[v0,v1,v2,v3,v4]:=by cases args;simp_all
 obtain⟨a0,rfl,rfl,rfl,w0⟩:=open_int Tryz.underlying3 (hval 0 _ v0 rfl rfl) h0
 obtain⟨a1,rfl,rfl,rfl,w1⟩:=open_int Tryz.underlying3 (hval 1 _ v1 rfl rfl) h1
 obtain⟨a2,rfl,rfl,rfl,w2⟩:=open_int Tryz.underlying3 (hval 2 _ v2 rfl rfl) h2
 obtain⟨a3,rfl,rfl,rfl,w3⟩:=open_int Tryz.underlying3 (hval 3 _ v3 rfl rfl) h3
 rcases qvz (hval 4 _ v4 rfl rfl) h4 with rfl|⟨b,o,n,cap,C,B,rfl,hm,hb,hC⟩
 ·exact walkNil a0 a1 a2 a3 W
 exact walkV b o n cap C B a0 a1 a2 a3 W hb hC hm
theorem proved:Rows.FleetDeafSaid:=
 OpenClaim.holds_of_wide 3 Tryz.f3 rfl rfl rfl rfl rfl rfl rfl ⟨rfl,rfl,rfl,rfl,rfl⟩ rfl rfl rfl rfl rfl (by kernel_rfl) Tryz.func3 (by kernel_rfl)
  (of_decide_eq_true (by kernel_rfl)) (by unfold Func.isWrapper;rw[if_neg (by decide +kernel)];exact⟨rfl,rfl⟩)
  (fun os started H enc _=>lifted os started H enc)
#print axioms proved
end Go.Proofs.YtdljelmbjdjpjaaGreat.fleetDeaf
