/-
  NodeRanges: two nodes range by hand, and the one that answered knows where it is, for every input: proved for all arguments, with no condition.
-/
import Derived.Test.YtfkngpmgcimdbaaGreatRows
import Derived.Test.YtfkngpmgcimdbaaGreatM12
set_option linter.unusedVariables false
set_option linter.unusedSimpArgs false
set_option maxRecDepth 100000
set_option maxHeartbeats 20000000
open Go.Proofs.Tryz

namespace Go.Proofs.YtfkngpmgcimdbaaGreat.nodeRanges
open Go Go.ChangeShapes Go.WideShapes Go.ChangeAt Go.RowKit Sx
theorem walkA (far r s:Int) (lost:Bool) (w:Int) (W:World) :
  xa 5 #[xc far,xc r,xc s,.bool lost,xc w] W (.bool true):=by
 have f0:=jf3 far 5000 Q8H Q8H
 have f1:=jf3 r 50 Q8H Q8H
 have f2:=jf3 s 500 Q8H Q8H
 have f3:=jf3 w 1000 Q8H Q8H
 have eF:FA far=100+md far 5000:=jdx _ Q8G Q8G
 have eR:RA r=2+md r 50:=jdx _ Q8G Q8G
 have eS:SA s=2+md s 500:=jdx _ Q8G Q8G
 cases lost with
 | true=>
  obtain⟨q⟩:=jq9 (F:=FA far) (ra:=RA r) (sa:=SA s) (w:=WA w) Q8G Q8G Q8G ⟨f3.1,by have:=f3.2;show md w 1000<=999;omega⟩;exact jo9 far r s w W q
 | false=>
  obtain⟨q⟩:=jra (F:=FA far) (ra:=RA r) (sa:=SA s) (w:=WA w) Q8G Q8G Q8G ⟨f3.1,by have:=f3.2;show md w 1000<=999;omega⟩;exact jpa far r s w W q
theorem lifted (os:Os) (started:os.Started) (H:Type) (enc:TypeId×Value->H) :
  ReturnsInHanded {} Tryz.checked os 5 .any (Rows.nodeRangesSpec.pre6 enc prog Tryz.f5 Rows.nodeRangesRow.domain false) (Rows.nodeRangesSpec.post enc prog Tryz.f5 false true false false):=by
 refine qvx (C:=Tryz.checked) (tb:=4) Tryz.own started Q8O func5 Tryz.laidOut Q8O rfl underlying4 rfl
  (fun ds hds=>by match ds,hds with|[_,_,_,_,_],_=>rfl)
  (ChangeSpec.witness6 (enc:=enc) (C:=Tryz.checked) false ⟨#[],#[xc 0,xc 0,xc 0,.bool false,xc 0],[]⟩ 8 Q8O Q8O Q8O Q8O) ?_
 intro W base args ds p hval0 hA0 hsz0
 have hval:∀ (j:Nat) t v,Tryz.f5.params[j]?=some t->args[j]?=some v->Value.okWide prog W .any base t v:=hval0
 have hA:DataW.TrodAll enc prog W 0 (fun _=>true) true Tryz.f5.params.toList args.toList ds p:=hA0
 have hsz:(DataW.weightsEach prog Tryz.f5.params.toList ds).all (·<=reachBytes)=true:=hsz0
 rw[Tryz.params5] at hA hval hsz
 obtain⟨v0,vs0,d0,ds0,p0,q0,hargs,rfl,rfl,h0,r0⟩:=trodAll_cons hA
 obtain⟨v1,vs1,d1,ds1,p1,q1,rfl,rfl,rfl,h1,r1⟩:=trodAll_cons r0
 obtain⟨v2,vs2,d2,ds2,p2,q2,rfl,rfl,rfl,h2,r2⟩:=trodAll_cons r1
 obtain⟨v3,vs3,d3,ds3,p3,q3,rfl,rfl,rfl,h3,r3⟩:=trodAll_cons r2
 obtain⟨v4,vs4,d4,ds4,p4,q4,rfl,rfl,rfl,h4,r4⟩:=trodAll_cons r3
 obtain⟨rfl,rfl,rfl⟩:=trodAll_nil r4
 obtain rfl:args = #[v0,v1,v2,v3,v4]:=by cases args;simp_all
 obtain⟨a0,rfl,rfl,rfl,w0⟩:=open_int underlying2 (hval 0 _ v0 rfl rfl) h0
 obtain⟨a1,rfl,rfl,rfl,w1⟩:=open_int underlying2 (hval 1 _ v1 rfl rfl) h1
 obtain⟨a2,rfl,rfl,rfl,w2⟩:=open_int underlying2 (hval 2 _ v2 rfl rfl) h2
 obtain⟨a3,rfl,rfl,rfl⟩:=open_bool underlying4 (hval 3 _ v3 rfl rfl) h3
 obtain⟨a4,rfl,rfl,rfl,w4⟩:=open_int underlying2 (hval 4 _ v4 rfl rfl) h4
 exact walkA a0 a1 a2 a3 a4 W
theorem proved:Rows.NodeRangesSaid:=
 OpenClaim.holds_of_wide 5 Tryz.f5 rfl rfl rfl rfl rfl rfl rfl ⟨rfl,rfl,rfl,rfl,rfl⟩ rfl rfl rfl rfl rfl Q8O func5 Q8O
  (of_decide_eq_true Q8O) (by unfold Func.isWrapper;rw[if_neg (by decide +kernel)];exact⟨rfl,rfl⟩)
  (fun os started H enc _=>lifted os started H enc)
#print axioms proved
end Go.Proofs.YtfkngpmgcimdbaaGreat.nodeRanges
