/-
  The statement NodeRefuses: for every input the law returns true.
-/
import Derived.Test.YtfkngpmgcimdbaaGreatRows
import Derived.Test.YtfkngpmgcimdbaaGreatR16
set_option linter.unusedVariables false
set_option linter.unusedSimpArgs false
set_option maxRecDepth 100000
set_option maxHeartbeats 20000000
open Go.Proofs.Tryz

namespace Go.Proofs.YtfkngpmgcimdbaaGreat.nodeRefuses
open Go Go.ChangeShapes Go.WideShapes Go.ChangeAt Go.RowKit Sx
theorem walkNil(u:Option Sl)(bs:List Int)(age:Int)(W:World)(hW:0<W.heap.size)(hsr:Src W [] u bs):xa 4 #[.slice none 0 0,uR u,xc age] W (.bool true):=by
 refine qna (vs:=[.slice none 0 0,uV u,xc age]) W tysOK mixed func4 Q8F hW (λF ρ=>⟨Den.plain rfl,λr _=>qbs _ r,Den.plain rfl,xb⟩) rfl ?_;by_cases hbig:1000<uN u
 .exact Q1T
 .repeat' (refine Ba ?_;first|refine Q4Z ?_|refine Q5P ?_|refine Q6u ?_|refine Q5d ?_|refine Q73 ?_|refine Bp 1 ?_|refine Q6J ?_|exact N.endM3 [] rfl rfl|fail)
theorem walkNil0(age:Int)(W:World):xa 4 #[.slice none 0 0,.slice none 0 0,xc age] W (.bool true):=by
 refine qac (G:=tys) W tysOK mixed func4 Q8F Q8F Q8F ?_;repeat' (refine Ba ?_;first|refine Q4Z ?_|refine Bb (qli 0 0 8 _ Q8I Q8I) ?_|refine Bb (qlt 4 4 5 1 4 4 _) ?_|refine Bb (qls _ (qm3 4 4 5 1 4 4) 2 7 Q8I Q8I 0 0 64 0 64 Q8I Q8I 3 _ Q8F) ?_|refine Q5d ?_|refine Bp 1 ?_|refine Q6J ?_|fail)
 all_goals rfl
theorem lifted(os:Os)(started:os.Started)(H:Type)(enc:TypeId×Value->H):
  ReturnsInHanded {} Tryz.checked os 4 .any (Rows.nodeRefusesSpec.pre6 enc prog Tryz.f4 Rows.nodeRefusesRow.domain false) (Rows.nodeRefusesSpec.post enc prog Tryz.f4 false true false false):=by
 refine qvt (C:=Tryz.checked) (tb:=4) Tryz.own started Q8J func4 Tryz.laidOut Q8J rfl underlying4 rfl
  (λds hds=>by match ds,hds with|[_,_,_],_=>rfl)
  (ChangeSpec.witness6 (enc:=enc) (C:=Tryz.checked) false ⟨#[],#[.slice none 0 0,.slice none 0 0,xc 0],[]⟩ 8 Q8J Q8J Q8J Q8J) ?_
 intro W base args ds p hval0 hA0 hsz0
 have hval:∀(j:Nat) t v,Tryz.f4.params[j]?=some t->args[j]?=some v->Value.okWide prog W .any base t v:=hval0
 have hA:DataW.TrodAll enc prog W 0 (λ_=>true) true Tryz.f4.params.toList args.toList ds p:=hA0
 have hsz:(DataW.weightsEach prog Tryz.f4.params.toList ds).all (·<=reachBytes)=true:=hsz0
 rw[Tryz.params4] at hA hval hsz
 obtain⟨v0,vs0,d0,ds0,p0,q0,hargs,rfl,rfl,h0,r0⟩:=trodAll_cons hA
 obtain⟨v1,vs1,d1,ds1,p1,q1,rfl,rfl,rfl,h1,r1⟩:=trodAll_cons r0
 obtain⟨v2,vs2,d2,ds2,p2,q2,rfl,rfl,rfl,h2,r2⟩:=trodAll_cons r1
 obtain⟨rfl,rfl,rfl⟩:=trodAll_nil r2
 obtain rfl:args = #[v0,v1,v2]:=by cases args;simp_all
 obtain⟨age,rfl,rfl,rfl,w2⟩:=open_int underlying2 (hval 2 _ v2 rfl rfl) h2
 obtain⟨A1,len1,cap1,rfl⟩:=qk7 underlying37 (hval 1 _ v1 rfl rfl)
 obtain⟨fuel,hf⟩:=h1
 rw[show(Value.slice A1 len1 cap1).cells.toList=[.slice A1 len1 cap1] from rfl] at hf
 obtain⟨u,bs,hu,hsr,hru,hrc⟩:=qro hf
 rcases q1a (hval 0 _ v0 rfl rfl) h0 with rfl|⟨b0,o,n,cap,C,B,rfl,hm,hb,hC⟩
 .cases A1 with
  | none=>
   obtain⟨rfl,rfl⟩:=qmt underlying37 (hval 1 _ _ rfl rfl);exact walkNil0 age W
  | some a=>
   have hW:0<W.heap.size:=by
    have:=(qhz underlying37 (hval 1 _ _ rfl rfl)).2.1;omega
   rw[hu];exact walkNil u bs age W hW hsr
 .rw[hu];exact jpl b0 o n cap C B u bs age W hb hC hm hsr hru hrc
theorem proved:Rows.NodeRefusesSaid:=
 OpenClaim.holds_of_wide 4 Tryz.f4 rfl rfl rfl rfl rfl rfl rfl ⟨rfl,rfl,rfl,rfl,rfl⟩ rfl rfl rfl rfl rfl Q8J func4 Q8J
  (of_decide_eq_true Q8J) (by unfold Func.isWrapper;rw[if_neg (by decide +kernel)];exact⟨rfl,rfl⟩)
  (λos started H enc _=>lifted os started H enc)
#print axioms proved
end Go.Proofs.YtfkngpmgcimdbaaGreat.nodeRefuses
