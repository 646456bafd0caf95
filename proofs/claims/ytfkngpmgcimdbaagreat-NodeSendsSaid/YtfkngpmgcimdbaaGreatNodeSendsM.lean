/-
  The statement NodeSends: for every input the law returns true.
-/
import Derived.Test.YtfkngpmgcimdbaaGreatRows
import Derived.Test.YtfkngpmgcimdbaaGreatK12
set_option linter.unusedVariables false
set_option linter.unusedSimpArgs false
set_option maxRecDepth 100000
set_option maxHeartbeats 20000000
open Go.Proofs.Tryz
namespace Go.Proofs
section
variable{Z Y:Prop}
theorem Q7E(k:Y)(h:Wr Y->Z:=by intro kQ;(first|refine Bb (qor (cf6 7 5 9 2 ev rt) hC 2 7 Q9V h7 6 _ Q9S) ?_|with_reducible refine Bb (qgz _) ?_|refine Bp 1 ?_|fail);exact kQ.o):Z:=h ⟨k⟩
end
end Go.Proofs

namespace Go.Proofs.YtfkngpmgcimdbaaGreat.nodeSends
open Go Go.ChangeShapes Go.WideShapes Go.ChangeAt Go.RowKit Sx
theorem walkNil(rt ev x y a b d:Int)(W:World):xa 3 #[xc rt,xc ev,elV x y a b d,.slice none 0 0] W (.bool true):=by
 have hC:ji2 (cf6 7 5 9 2 ev rt):=qu8 7 5 9 2 ev rt;have h7:jf8 7:=⟨by decide,by decide⟩;refine qac (G:=tys) W tysOK mixed func3 Q9S Q9S Q9S ?_;by_cases hm:mayP x y a b d
 .repeat' (refine Ba ?_;first|refine Q5P ?_|refine Q7i ?_|refine Q66 ?_|refine Q7E ?_|refine Bg (xg hm) ?_|refine Bb (q1u (cf6 7 5 9 2 ev rt) hC 2 7 Q9V h7 x y a b d hm 10 _ Q9S) ?_|fail)
  all_goals rfl
 .repeat' (refine Ba ?_;first|refine Q5P ?_|refine Q7i ?_|refine Q66 ?_|refine Q7E ?_|refine Bf (xf hm) ?_|fail)
  all_goals rfl
theorem open_e{H:Type}{enc:TypeId×Value->H}{W:World}{r:Reach}{base:Nat}{v:Value}{d:DataW H}{p:List MemPlace}
  (hv:Value.okWide prog W r base 27 v) (h:DataW.Trod enc prog W 0 (λ_=>true) true 27 v d p) :
  ∃x0 x1 x2 x3 x4:Int,v=.agg #[xc x0,xc x1,xc x2,xc x3,xc x4]:=by
 obtain⟨cs,rfl,hs⟩:=okWide_struct underlying27 hv
 have hs2:cs.size=5:=hs.trans Q9W
 obtain⟨l⟩:=cs
 match l,hs2 with
 | [c0,c1,c2,c3,c4],_=>
  obtain⟨fuel,hf⟩:=h;have hf':DataW.trod enc prog W 0 (λ_=>true) true fuel 27 [c0,c1,c2,c3,c4]=some (d,p):=hf;obtain⟨k0,w0⟩:=qbe (d:=3) (l:=2) (j:=0) (u:=c0) Q9W (@underlying2) rfl hf';obtain⟨k1,w1⟩:=qbe (d:=3) (l:=2) (j:=1) (u:=c1) Q9W (@underlying2) rfl hf';obtain⟨k2,w2⟩:=qbe (d:=3) (l:=2) (j:=2) (u:=c2) Q9W (@underlying2) rfl hf';obtain⟨k3,w3⟩:=qbe (d:=3) (l:=2) (j:=3) (u:=c3) Q9W (@underlying2) rfl hf';obtain⟨k4,w4⟩:=qbe (d:=3) (l:=2) (j:=4) (u:=c4) Q9W (@underlying2) rfl hf';exact⟨_,_,_,_,_,by rw[k0,k1,k2,k3,k4]⟩
theorem lifted(os:Os)(started:os.Started)(H:Type)(enc:TypeId×Value->H):
  ReturnsInHanded {} Tryz.checked os 3 .any (Rows.nodeSendsSpec.pre6 enc prog Tryz.f3 Rows.nodeSendsRow.domain false) (Rows.nodeSendsSpec.post enc prog Tryz.f3 false true false false):=by
 refine qv0 (C:=Tryz.checked) (tb:=4) Tryz.own started Q9W func3 Tryz.laidOut Q9W rfl underlying4 rfl
  (λds hds=>by match ds,hds with|[_,_,_,_],_=>rfl)
  (ChangeSpec.witness6 (enc:=enc) (C:=Tryz.checked) false ⟨#[],#[xc 0,xc 0,.agg ⟨[xc 0,xc 0,xc 0,xc 0,xc 0]⟩,.slice none 0 0],[]⟩ 8 Q9W Q9W Q9W Q9W) ?_
 intro W base args ds p hval0 hA0 hsz0
 have hval:∀(j:Nat) t v,Tryz.f3.params[j]?=some t->args[j]?=some v->Value.okWide prog W .any base t v:=hval0
 have hA:DataW.TrodAll enc prog W 0 (λ_=>true) true Tryz.f3.params.toList args.toList ds p:=hA0
 have hsz:(DataW.weightsEach prog Tryz.f3.params.toList ds).all (·<=reachBytes)=true:=hsz0
 rw[Tryz.params3] at hA hval hsz
 obtain⟨v0,vs0,d0,ds0,p0,q0,hargs,rfl,rfl,h0,r0⟩:=trodAll_cons hA
 obtain⟨v1,vs1,d1,ds1,p1,q1,rfl,rfl,rfl,h1,r1⟩:=trodAll_cons r0
 obtain⟨v2,vs2,d2,ds2,p2,q2,rfl,rfl,rfl,h2,r2⟩:=trodAll_cons r1
 obtain⟨v3,vs3,d3,ds3,p3,q3,rfl,rfl,rfl,h3,r3⟩:=trodAll_cons r2
 obtain⟨rfl,rfl,rfl⟩:=trodAll_nil r3
 obtain rfl:args = #[v0,v1,v2,v3]:=by cases args;simp_all
 obtain⟨a0,rfl,rfl,rfl,w0⟩:=open_int underlying3 (hval 0 _ v0 rfl rfl) h0
 obtain⟨a1,rfl,rfl,rfl,w1⟩:=open_int underlying3 (hval 1 _ v1 rfl rfl) h1
 obtain⟨x,y,a,b,d,rfl⟩:=open_e (hval 2 _ v2 rfl rfl) h2
 rcases q1m (hval 3 _ v3 rfl rfl) h3 with rfl|⟨b0,o,n,cap,C,B,rfl,hm,hb,hC⟩
 .exact walkNil a0 a1 x y a b d W
 .exact jqa b0 o n cap C B a0 a1 x y a b d W hb hC hm
theorem proved:Rows.NodeSendsSaid:=
 OpenClaim.holds_of_wide 3 Tryz.f3 rfl rfl rfl rfl rfl rfl rfl ⟨rfl,rfl,rfl,rfl,rfl⟩ rfl rfl rfl rfl rfl Q9W func3 Q9W
  (of_decide_eq_true Q9W) (by unfold Func.isWrapper;rw[if_neg (by decide +kernel)];exact⟨rfl,rfl⟩)
  (λos started H enc _=>lifted os started H enc)
#print axioms proved
end Go.Proofs.YtfkngpmgcimdbaaGreat.nodeSends
