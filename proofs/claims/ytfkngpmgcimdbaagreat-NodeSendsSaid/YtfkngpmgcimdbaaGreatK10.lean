/-
  A node's rangings.
-/
import Derived.Test.YtfkngpmgcimdbaaGreatK9
set_option linter.unusedVariables false
set_option linter.unusedSimpArgs false
set_option maxRecDepth 100000
set_option maxHeartbeats 20000000
open Go.Proofs.Tryz
namespace Go.Proofs
section
variable{Z Y:Prop}
theorem Q0f(h:Z:=by
 refine qac (G:=tys) W tysOK mixed func47 Q9S Q9S Q9S ?_;repeat' (refine Ba ?_;first|refine Q5P ?_|refine Bb (qib _ _) ?_|refine Bf (ynT h1) ?_|refine Bg (nyT h1) ?_|refine Bf (ynT h2) ?_|refine Bg (nyT h2) ?_|refine Bf (ynT h3) ?_|refine Bg (nyT h3) ?_|refine Bf (ynT h4) ?_|refine Bg (nyT h4) ?_|refine Bg (by rw[e1,xh];omega) ?_|refine Bf (by rw[e1,xm];omega) ?_|refine Bg (by rw[e3,xh];omega) ?_|refine Bf (by rw[e3,xm];omega) ?_|fail)
 all_goals rfl):Z:=h
theorem Q0S(h:Z:=by repeat' (refine Ba ?_;first|refine Q5P ?_|exact Be|refine Q6q ?_|refine Bc (qat (qaq ek) rfl) ?_|refine Bc (qat (qaq es) rfl) ?_|refine Bc qfp ?_|refine Bc (.one .quo) ?_|fail)):Z:=h
theorem Q0T(h:Z:=by
 refine Bm (α:=EvS) (.yes (r+1) cap') [(0,0),(1,1),(2,2),(3,3),(4,4),(5,5),(6,6),(7,7),(11,8)] (And.intro ⟨hlt,by show 0<(evL T.E (λ_=>true) (r+1)).length;rw[e1,xv];exact zG _ _,by show(evL T.E (λ_=>true) (r+1)).length<=cap';rw[e1,xv];exact hcap⟩ Qa9) ?_;repeat' (refine Ba ?_;first|refine Q5P ?_|refine Bc Q88 ?_|refine Bc Q9t ?_|refine Bc (qkr e1 hcap r3) ?_|exact Be|refine Q6d ?_|refine Q6k ?_|fail)):Z:=h
theorem Q0W(h:Z:=by
 refine Bm (α:=EvS) (.yes (r+1) c) [(0,0),(1,1),(2,2),(3,3),(4,4),(5,5),(6,6),(7,7),(8,8)] (And.intro ⟨hlt,by show 0<(evL T.E (λ_=>true) (r+1)).length;rw[e1,xv];exact zG _ _,by show(evL T.E (λ_=>true) (r+1)).length<=c;rw[e1,xv];exact hr⟩ Qa9) ?_;repeat' (refine Ba ?_;first|refine Q5P ?_|refine Bc Q88 ?_|refine Bc Q9t ?_|refine Bc (qoq e1) ?_|exact Be|refine Q6d ?_|refine Q6k ?_|fail)):Z:=h
theorem Q10(h:Z:=by
 repeat' (refine Ba ?_;first|refine Q5P ?_|refine Bf (bne_eq_false_iff_eq.2 hsum) ?_|refine Br (qd8 (p:=4) (q:=sn) (so+(if sc=4 then 0 else 4)) rfl rfl ⟨_,_,rfl,⟨rfl,rfl⟩⟩ rfl rfl ⟨rfl,by omega⟩ rfl) ?_|fail)
 refine Ba ?_;refine Bb (jga W hz R _ (bs.drop 4) O0 1 Qa0 Qa0 0 _ Q9V _ Q9S Q9S Q9S) ?_;refine Q01 ?_;refine Bb (jga W hz R _ (bs.drop 5) O1 1 Qa0 Qa0 0 _ Q9V _ Q9S Q9S Q9S) ?_;refine Q01 ?_;refine Bb (jga W hz R _ (bs.drop 6) O2 1 Qa0 Qa0 0 _ Q9V _ Q9S Q9S Q9S) ?_;refine Q01 ?_;refine Bb (jga W hz R _ (bs.drop 7) O3 1 Qa0 Qa0 0 _ Q9V _ Q9S Q9S Q9S) ?_;refine Q01 ?_;refine Bb (jga W hz R _ (bs.drop 8) O4 2 Qa0 Qa0 0 _ Q9V _ Q9S Q9S Q9S) ?_;refine Q01 ?_;refine Bb (jga W hz R _ (bs.drop 10) O5 2 Qa0 Qa0 0 _ Q9V _ Q9S Q9S Q9S) ?_;refine Q01 ?_;refine Bb (jga W hz R _ (bs.drop 12) O6 8 Qa0 Qa0 0 _ Q9V _ Q9S Q9S Q9S) ?_;refine Q01 ?_;refine Bb (jga W hz R _ (bs.drop 20) O7 8 Qa0 Qa0 0 _ Q9V _ Q9S Q9S Q9S) ?_;refine Q01 ?_;refine Bb (jga W hz R _ (bs.drop 28) O8 8 Qa0 Qa0 0 _ Q9V _ Q9S Q9S Q9S) ?_;refine Q01 ?_
 refine Bb (jga W hz R _ (bs.drop 36) O9 8 Qa0 Qa0 0 _ Q9V _ Q9S Q9S Q9S) ?_;refine Q01 ?_;refine Bb (qvk W hz R _ (bs.drop 44) O10 Qa0 Qa0 0 _ Q9V _ Q9S Q9S Q9S) ?_;refine Q01 ?_;refine Bb (qvk W hz R _ (bs.drop 48) O11 Qa0 Qa0 0 _ Q9V _ Q9S Q9S Q9S) ?_;refine Q01 ?_;refine Bb (jga W hz R _ (bs.drop 52) O12 8 Qa0 Qa0 0 _ Q9V _ Q9S Q9S Q9S) ?_;refine Q01 ?_;refine Bb (jga W hz R _ (bs.drop 60) O13 8 Qa0 Qa0 0 _ Q9V _ Q9S Q9S Q9S) ?_;refine Q01 ?_;refine Bb (jga W hz R _ (bs.drop 68) O14 8 Qa0 Qa0 0 _ Q9V _ Q9S Q9S Q9S) ?_;refine Q01 ?_;refine Bb (q06 (jmz bs) _) ?_;repeat' (refine Ba ?_;first|refine Q5P ?_|refine Bf (dcY hm) ?_|refine Bg (dcN hm) ?_|refine Q7G ?_|refine Q6o ?_|refine Bc Q8s ?_|refine Q61 ?_|exact Be|fail)):Z:=h
theorem Q12(h:Z:=by
 cases s with
 | no r=>
  obtain⟨r1,r2⟩:=hs;have hlt:r<T.E.length:=hlt;have r2:evL T.E (λ_=>true) r=[]:=r2;have e1:evL T.E (λ_=>true) (r+1)=evL T.E (λ_=>true) r++[(entT T.E r).node]:=if_pos rfl;refine Q2J ?_;refine Q01 ?_;refine qjp (.agg #[xc (entT T.E r).node]) Q8O Q9V Q9V Q9V λcap' hcap=>?_
  refine Q01 ?_;rw[r2] at e1;refine Bm (α:=EvS) (.yes (r+1) cap') [(0,0),(1,1),(2,2),(3,3),(4,4),(5,5),(6,6),(7,7),(10,8)] (And.intro ⟨hlt,by show 0<(evL T.E (λ_=>true) (r+1)).length;rw[e1];exact nlr _,by show(evL T.E (λ_=>true) (r+1)).length<=cap';rw[e1];exact hcap⟩ Qa9) ?_;repeat' (refine Ba ?_;first|refine Q5P ?_|refine Bc Q88 ?_|refine Bc (qdr (by show(evL T.E (λ_=>true) (r+1)).length=_;rw[e1];rfl) Q9S) ?_|refine Bc (qjb e1 hcap) ?_|exact Be|refine Q6d ?_|refine Q6k ?_|fail)
 | yes r c=>
  obtain⟨r1,r2,r3⟩:=hs;have hlt:r<T.E.length:=hlt;have r2:0<(evL T.E (λ_=>true) r).length:=r2;have r3:(evL T.E (λ_=>true) r).length<=c:=r3;have r4:=qja T.E (λ_=>true) r;have e1:evL T.E (λ_=>true) (r+1)=evL T.E (λ_=>true) r++[(entT T.E r).node]:=if_pos rfl;refine Q2J ?_;refine Q01 ?_;refine qlg (.agg #[xc (entT T.E r).node]) Q8O Q9S (by show _*1<=c*1;omega) Q9R Qbg (riC true c (setri (λi=>(evL T.E (λ_=>true) r).getD i 0) (evL T.E (λ_=>true) r).length (entT T.E r).node)) (λh=>jlj Q9R rfl) (λhr=>?_) (λhg2 cap' hcap=>?_)
  .refine Q01 ?_;exact Q0W
  .refine Q01 ?_;exact Q0T):Z:=h
theorem Q1n(h:Z:=by repeat' (refine Ba ?_;first|refine Q5P ?_|refine Q7h ?_|refine Bg (xg (show((sn:Nat):Int)<80 by omega)) ?_|refine Bf (xf (show ¬ ((sn:Nat):Int)<80 by omega)) ?_|refine Bg (xg (show(80:Int)<((sn:Nat):Int) by omega)) ?_|refine Q7G ?_|refine Q6o ?_|refine Bc Q8s ?_|refine Q61 ?_|exact Be|fail)):Z:=h
theorem Q1v(k:Y)(h:Wr Y->Z:=by
 intro kQ;repeat' (refine Ba ?_;first|refine Q5S ?_|refine Q5U ?_|fail)
 refine Ba ?_;refine Q5g ?_;refine Bt [0,1,2,3,4,5,6,7,8,9,10] [(11,[])] Q9W ?_;repeat' (refine Ba ?_;first|refine Q5P ?_|refine Q6x ?_|fail)
 refine Ba ?_;exact kQ.o):Z:=h ⟨k⟩
theorem Q1B(h:Z:=by repeat' (refine Ba ?_;first|refine Q5P ?_|exact Be|refine Q6d ?_|refine Q6k ?_|fail)):Z:=h
theorem Q24(h:Z:=by
 refine Q3z ?_;refine Bc ⟨⟨_,e0,id,nlr _,lt4 (.ptr Q9S) (.plain rfl) (.plain rfl) (.slice Q9S)⟩,Q8U,⟨_,e3,id,nlr _,nzj⟩,⟨_,e4,id,nlr _,re2⟩,qay e6,xb⟩ ?_;refine Bc xb ?_;refine Bc ⟨Q9D,xb⟩ ?_;exact Be):Z:=h
theorem Q26(h:Z:=by repeat' (refine Ba ?_;first|refine Q5P ?_|exact Be|refine Q6q ?_|refine Bc (.one (.ptr rfl)) ?_|refine Bc (.one .quo) ?_|refine Bc qfp ?_|refine Bc jpx ?_|refine Bc (qat (qaq ek) rfl) ?_|refine Bc (qat (qaq eS) rfl) ?_|fail)):Z:=h
theorem Q3n(h:Z:=by
 cases s with
 | no r=>
  obtain⟨r1,r2⟩:=hs;have hlt:¬ r<T.E.length:=hlt;have:=ql7 T.E r;rw[show evL T.E (λ_=>true) r=[] from r2] at this;have:0=r:=this;omega
 | yes r c=>exact⟨r,c,rfl⟩):Z:=h
theorem Q3q(h:Z:=by rw[hE0] at hE;exact absurd hE.1 Q9V):Z:=h
theorem Q4u(h:Z:=by
 refine Ba ?_;refine Bm (α:=Nat) (k+1) [(0,0)] ⟨hkl,by show bs.length-(k+1)<bs.length-k;omega⟩ ?_;exact Q0S):Z:=h
theorem Q4w(h:Z:=by
 have:=ql7 T.E T.E.length;rw[show evL T.E (λ_=>true) T.E.length=[] from e] at this;have:0=T.E.length:=this;omega):Z:=h
theorem Q4V(k:Y)(h:Wr Y->Z:=by
 intro kQ;refine qac (G:=tys) W tysOK mixed func79 Q9S Q9S Q9S ?_;exact kQ.o):Z:=h ⟨k⟩
theorem Q51(h:Z:=by
 subst e;refine qav (qc1 hc) λv ms hR=>?_
 obtain⟨rfl,rfl⟩:=hR;exact⟨rfl,by rw[ho]⟩):Z:=h
theorem Q57(h:Z:=by exact(e1 _ _).trans ((e2 _ _).trans (e1 _ _)).symm):Z:=h
theorem Q5y(h:Z:=by unfold jgo Tbl.leave;rw[if_neg k5,if_neg k6,if_neg Q9R,if_pos k7,hlf]):Z:=h
theorem Q6h(k:Y)(h:Wr Y->Z:=by intro kQ;(first|refine Bf QaU ?_|refine Bg (ei hk) ?_|fail);exact kQ.o):Z:=h ⟨k⟩
theorem Q6k(k:Y)(h:Wr Y->Z:=by intro kQ;(first|refine Bc qdl ?_|refine Bc qg5 ?_|refine Bc qgy ?_|refine Bc ⟨id,nlr _,lt4 (.ptr Q9S) (.plain rfl) (.plain rfl) (.slice Q9S)⟩ ?_|refine Bc ⟨id,nlr _,jhd Q9S Q9S Q9S Q9S⟩ ?_|refine Bc ⟨id,nlr _,re2⟩ ?_|refine Bc qg6 ?_|fail);exact kQ.o):Z:=h ⟨k⟩
theorem Q6x(k:Y)(h:Wr Y->Z:=by intro kQ;(first|refine Bi m 1 hm hm64 ?_|refine Bk _ (qg4 _ _ _ _ _ m hm64 rfl) ?_|fail);exact kQ.o):Z:=h ⟨k⟩
theorem Q6C(k:Y)(h:Wr Y->Z:=by intro kQ;(first|refine Br (qcw rfl rfl ⟨_,rfl,_,underlying37⟩) ?_|refine Bf (xf (show ¬ ((sn:Nat):Int)<80 by omega)) ?_|refine Bf (xf (show ¬ (80:Int)<((sn:Nat):Int) by omega)) ?_|refine Br (qd8 (p:=0) (q:=4) (so+(if sc=0 then 0 else 0)) rfl rfl rfl ⟨_,_,rfl,⟨rfl,rfl⟩⟩ ⟨rfl,by omega⟩ rfl rfl) ?_|refine Br (q1f (i:=0) (R:=R) hz rfl rfl Q9S QaA QaA (hs.takew 4 Q9R)) ?_|refine Bu _ (q6t _ _ _ _) ?_|fail);exact kQ.o):Z:=h ⟨k⟩
theorem Q6K(k:Y)(h:Wr Y->Z:=by intro kQ;(first|refine Bb (qe1 _ _ _ _ _ _ _ _ _ _ _ _ _ _ _ ⟨hfr.1,hfr.2.1⟩ ⟨hfr.2.2.1,hfr.2.2.2⟩ _) ?_|fail);exact kQ.o):Z:=h ⟨k⟩
theorem Q6N(k:Y)(h:Wr Y->Z:=by intro kQ;(first|refine Bf (en hd) ?_|refine Bg (ei hd) ?_|fail);exact kQ.o):Z:=h ⟨k⟩
theorem Q7h(k:Y)(h:Wr Y->Z:=by intro kQ;(first|refine Br (qcw rfl rfl ⟨_,rfl,_,underlying37⟩) ?_|fail);exact kQ.o):Z:=h ⟨k⟩
theorem Q7G(k:Y)(h:Wr Y->Z:=by intro kQ;(first|refine Bl ?_|refine Bn () ⟨xb,?_⟩|fail);exact kQ.o):Z:=h ⟨k⟩
theorem Q80(h:Z:=by first|exact qhp (D:=D) (F:=F) (T:=T) (f:=f) (m:=m) (at_:=at_) (now:=now) (fine:=fine) (n:=n) (l:=l) (i0:=0) (i1:=1) (i2:=2) (i3:=3) (i4:=4) (i5:=5) (K:=7) ⟨hm,hm64,hfr,hl,hs,hb,hF,hC⟩ Q9R ⟨by rfl,by rfl,by rfl,by rfl,by rfl,by rfl,by rfl,by decide⟩|fail):Z:=h
theorem Q8e(h:Z:=by first|exact jpu Q9S Q9S|fail):Z:=h
theorem Q8k(h:Z:=by first|exact λh₂ hh=>jkz T hE.2 3 7 h₂ ((hh 3 Qa2).trans rfl) ((hh 7 Qa2).trans rfl)|fail):Z:=h
theorem Q8n(h:Z:=by first|exact λh₂ hh=>ql2 (D.se (upd D.S m ((D.S m).gotPoll at_ f.st))) (jj6 f) now fine n l Q9R hs hb 0 1 2 3 4 5 10 h₂ _ _ _ ((hh 0 Qa2).trans rfl) ((hh 1 Qa2).trans rfl) ((hh 2 Qa2).trans rfl) ((hh 3 Qa2).trans rfl) ((hh 4 Qa2).trans rfl) ((hh 5 Qa2).trans rfl) ((hh 10 Qa2).trans rfl) Q9V|fail):Z:=h
theorem Q8w(h:Z:=by first|exact (hh 0 Qa2).trans rfl|fail):Z:=h
theorem Q8R(h:Z:=by first|exact (hh 2 Qa2).trans rfl|fail):Z:=h
theorem Q8U(h:Z:=by first|exact ⟨c,e1,λ_=>hle.1 rfl,hle.2.1,qs2 (D:=D2) (f:=i2) (t:=i3) (b:=i4) (m:=i5) (f':=2) (t':=3) (b':=4) (m':=5) hle Q9S Q9S Q9S Q9S⟩|fail):Z:=h
theorem Q8W(h:Z:=by first|exact q08 D.asked (evL T.E (λ_=>true) T.E.length) c _ (q09 r3) (by show _<=c*1;omega) (by have:=qja T.E (λ_=>true) T.E.length;omega) 8 _ Q9S|fail):Z:=h
theorem Q8X(h:Z:=by first|exact (hh 5 Qa2).trans rfl|fail):Z:=h
theorem Q8Y(h:Z:=by first|exact qrj T.E ce D.told hE hce 7 _ Q9S|fail):Z:=h
theorem Q90(h:Z:=by first|exact ⟨_,e1,id,nlr _,jhd (D:=D.to R) (f:=i2) (t:=i3) (b:=i4) (m:=i5) (f':=2) (t':=3) (b':=4) (m':=5) Q9S Q9S Q9S Q9S⟩|fail):Z:=h
theorem Q97(h:Z:=by first|exact q1c D.g (upd D.S m ⟨⟨2,(D.S m).a.fr,at_,(D.S m).a.mr,(D.S m).a.sp⟩,(D.S m).b⟩) m hm64 fine he 1 9 Q9S Q9S|fail):Z:=h
theorem Q98(h:Z:=by first|exact λh₂ hh=>jps D.g D.S m hm64 fine (D.boot*65536+D.seq) 1 11 ((hh 1 Qa2).trans rfl) ((hh 11 Qa2).trans rfl)|fail):Z:=h
theorem Q9j(h:Z:=by first|exact ql6 D.g D.S m hm64 at_ f.t1 hg 1 8 Q9S Q9S|fail):Z:=h
theorem Q9n(h:Z:=by first|exact qoy D.g D.S m hm64 at_ f.st 1 8 Q9S Q9S|fail):Z:=h
theorem Q9r(h:Z:=by first|exact ⟨.inl rfl,.inr ⟨rfl,rfl⟩,.inl rfl,.inr ⟨rfl,rfl⟩,.inl rfl,.inl rfl,.inl rfl,xb⟩|fail):Z:=h
theorem Q9t(h:Z:=by first|exact qdr (by show(evL T.E (λ_=>true) (r+1)).length=_;rw[e1,xv];rfl) Q9S|fail):Z:=h
theorem Q9u(h:Z:=by first|exact qoz D (je3 D T).1 2 3 4 5 rfl|fail):Z:=h
theorem Q9w(h:Z:=by first|exact ⟨.inl rfl,.inr ⟨_,e1,rfl⟩,.inl rfl,.inr ⟨_,e3,rfl⟩,.inl rfl,.inl rfl,xb⟩|fail):Z:=h
theorem Q9z(h:Z:=by first|exact ⟨.inl rfl,.inr ⟨rfl,rfl⟩,.inl rfl,.inr ⟨rfl,rfl⟩,.inl rfl,.inl rfl,xb⟩|fail):Z:=h
theorem Q9D(h:Z:=by first|exact ⟨.inl rfl,hx,.inl rfl,.inr ⟨_,e3,rfl⟩,.inl rfl,.inl rfl,.inl rfl,xb⟩|fail):Z:=h
theorem Q9G(h:Z:=by first|exact ⟨Q7X,⟨λ_=>⟨rfl,nlr _⟩,nlr _,g1z (by rw[hf];exact .quo)⟩,xb⟩|fail):Z:=h
theorem Q9P(h:Z:=by first|exact λv ms hR=>by obtain⟨rfl,⟨hκ,rfl⟩|⟨κ,hκ,rfl⟩⟩:=hR<;>rfl|fail):Z:=h
theorem Qa0(h:Z:=by rw[List.length_drop];omega):Z:=h
theorem QaA(h:Z:=by exact rfl):Z:=h
theorem QaO(h:Z:=by rw[show(jgc D.asked (evL T.E (λ_=>true) T.E.length)).2=true from hk];rfl):Z:=h
theorem QaU(h:Z:=by rw[hk];decide):Z:=h
end
end Go.Proofs

namespace Go.Proofs.YtfkngpmgcimdbaaGreat
open Go Go.RowKit Sx
structure HrS where
 S:Nat->Ses
 seq:Int
 l:Int
 F:Flr
 T:Tbl
 o:Option Ou
def Frm.mk'(f:Frm):Int:=f.b*65536+f.q
def jj6(f:Frm):Frm:=⟨3,0,0,0,0,f.s,f.mk',0,0,0,0,0,0,0,0⟩
def jpt(f:Frm)(r a:Int):Frm:=⟨4,0,0,0,0,f.s,r,a,0,f.mk',0,0,0,0,0⟩
def NdS.se(D:NdS)(S:Nat->Ses):NdS:=⟨D.C,D.id,D.boot,D.g,S,D.seq,D.told,D.asked,D.bad⟩
def NdS.to(D:NdS)(r:HrS):NdS:=⟨D.C,D.id,D.boot,D.g,r.S,r.seq,D.told,D.asked,D.bad⟩
def jii(D:NdS)(l:Int)(F:Flr)(T:Tbl)(m:Nat)(f:Frm)(at_ now fine:Int):HrS:=
 if l=0 then ⟨upd D.S m ((D.S m).gotPoll at_ f.st),D.seq,l,F,T,none⟩
 else ⟨upd (upd D.S m ((D.S m).gotPoll at_ f.st)) m ((upd D.S m ((D.S m).gotPoll at_ f.st) m).resp fine (D.boot*65536+D.seq)),D.seq+1,l-1,F,T,some ⟨(jj6 f).by D now,fine⟩⟩
def jhy(D:NdS)(l:Int)(F:Flr)(T:Tbl)(m:Nat)(f:Frm)(at_ now fine:Int):HrS:=
 if (D.S m).gotRespP at_ f.t1 then
  (if (upd D.S m ((D.S m).gotResp at_ f.t1) m).a.endP fine then
   (
    if l=0 then ⟨upd (upd D.S m ((D.S m).gotResp at_ f.t1)) m ((upd D.S m ((D.S m).gotResp at_ f.t1) m).final fine),D.seq,l,F,T,none⟩
    else ⟨upd (upd D.S m ((D.S m).gotResp at_ f.t1)) m ((upd D.S m ((D.S m).gotResp at_ f.t1) m).final fine),D.seq+1,l-1,F,T,
     some ⟨(jpt f (IntKind.i64.wrap ((upd D.S m ((D.S m).gotResp at_ f.t1) m).a.to-(upd D.S m ((D.S m).gotResp at_ f.t1) m).a.fr)) (IntKind.i64.wrap (fine-(upd D.S m ((D.S m).gotResp at_ f.t1) m).a.to))).by D now,fine⟩⟩)
   else ⟨upd (upd D.S m ((D.S m).gotResp at_ f.t1)) m (upd D.S m ((D.S m).gotResp at_ f.t1) m),D.seq,l,F,T,none⟩)
 else ⟨upd D.S m (D.S m),D.seq,l,F,T,none⟩
def qrm(D:NdS)(l:Int)(F:Flr)(T:Tbl)(m:Nat)(f:Frm)(at_ now:Int):HrS:=
 if (D.S m).gotFinalP at_ f.wn then ⟨upd D.S m ((D.S m).gotFinal at_ f.wn),D.seq,l,qcx D F T f.s f.t1 (IntKind.i64.wrap ((D.S m).b.to-(D.S m).b.fr)) f.t2 (IntKind.i64.wrap (at_-(D.S m).b.to)) (D.S m).b.sp now,T,none⟩
 else ⟨upd D.S m (D.S m),D.seq,l,F,T,none⟩
theorem qg4(D:NdS)(f t b mm m:Nat)(hm:m<64){p:Nat}(hp:p=15+m):Reads (ndC D f t b mm) p false 1 (jfd (D.g m)):=by
 subst hp;refine⟨by show 15+m<85;omega,rfl,?_⟩;show qa9 [(79,6,_),(15,64,_),(0,15,_)] _=_;rw[qan,if_neg Q9R,qan,if_pos Q9R,show 15+m-15=m by omega];simp[cellIn,hm]
def hrR(D:NdS)(now fine n:Int)(r:HrS)(i0 i1 i2 i3 i4 i5 K:Nat)(v:Value)(ms:Mz):Prop:=
 v=.tuple #[]/\match r.o with
 | none=>ms=[(i0,sdC i1 now fine (.slice none 0 0)),(i1,ndC (D.to r) i2 i3 i4 i5),(i2,fiF r.F),(i3,tblC r.T),(i4,twC n r.l)]
 | some x=>∃κ:Nat,1<=κ/\ms=[(i0,sdC i1 now fine (.slice (some ⟨K,0,some 0⟩) 1 κ)),(i1,ndC (D.to r) i2 i3 i4 i5),(i2,fiF r.F),(i3,tblC r.T),(i4,twC n r.l),(K,ouR [x] κ)]
variable{K:Nat}
theorem q6r{sl:Nat}{l:List (Nat×Nat)}(h:∀p∈l,p.1≠sl):ixK (l++[(sl,K)]) sl=some K:=by
 induction l with
 | nil=>show(match Nat.beq sl sl with | true=>_ | false=>_)=_;rw[Nat.beq_refl]
 | cons a r ih=>
  have h1:Nat.beq a.1 sl=false:=by
   cases e:Nat.beq a.1 sl with
   | false=>rfl
   | true=>exact absurd (xN e) (h a Qa2)
  show(match Nat.beq a.1 sl with|true=>_|false=>ixK (r++[(sl,K)]) sl)=_;rw[h1];exact ih λp hp=>h p (by simp[hp])
abbrev m6(D:NdS)(now fine n:Int)(i0 i1 i2 i3 i4 i5:Nat)(R:HrS):Mz:=[(i0,sdC i1 now fine (.slice none 0 0)),(i1,ndC (D.to R) i2 i3 i4 i5),(i2,fiF R.F),(i3,tblC R.T),(i4,twC n R.l)]
abbrev y6(D:NdS)(now fine n:Int)(i0 i1 i2 i3 i4 i5 K:Nat)(R:HrS)(x:Ou)(v:Value)(ms:Mz):Prop:=∃κ:Nat,1<=κ/\v=.tuple #[]/\ms=[(i0,sdC i1 now fine (.slice (some ⟨K,0,some 0⟩) 1 κ)),(i1,ndC (D.to R) i2 i3 i4 i5),(i2,fiF R.F),(i3,tblC R.T),(i4,twC n R.l),(K,ouR [x] κ)]
abbrev hdA(f:Frm)(at_:Int)(i0 i1:Nat):List Value:=[xd i1,hdV f at_ i0]
variable{ix:List (Nat×Nat)}{i0 i1:Nat}
theorem jpu{f:Frm}{at_:Int}(h0:ixK ix 0=some i0)(h1:ixK ix 1=some i1):All2 (Re2 ix) (hdA f at_ i0 i1) (hdA f at_ 0 1):=⟨.ptr h1,.agg ⟨.plain rfl,.plain rfl,.plain rfl,.plain rfl,.plain rfl,.plain rfl,.plain rfl,.plain rfl,.plain rfl,.plain rfl,.plain rfl,.plain rfl,.plain rfl,.plain rfl,.plain rfl,.plain rfl,.ptr h0,xb⟩,xb⟩
structure On6(D:NdS)(F:Flr)(T:Tbl)(now fine n l:Int)(i0 i1 i2 i3 i4 i5 K:Nat)(h:Hp)(cm:Chunk):Prop where
 h0:h[i0]?=some (some (sdC i1 now fine (.slice none 0 0)))
 h1:h[i1]?=some (some (ndC D i2 i3 i4 i5))
 h2:h[i2]?=some (some (fiF F))
 h3:h[i3]?=some (some (tblC T))
 h4:h[i4]?=some (some (twC n l))
 h5:h[i5]?=some (some cm)
 hK:h[K]?=some none
 ne:[i0,i1,i2,i3,i4,i5].Nodup
structure Rg(D:NdS)(F:Flr)(f:Frm)(m:Nat)(l:Int):Prop where
 hm:f.s=(m:Int)
 hm64:m<64
 hfr:0<=f.b/\f.b<=65535/\0<=f.q/\f.q<=65535
 hl:0<=l/\l<1000
 hs:0<=D.seq/\D.seq<65535
 hb:0<=D.boot/\D.boot<=65535
 hF:F.valid=true->F.e.may
 hC:0<=D.C 2/\D.C 2<=1000
abbrev ss6(D:NdS)(F:Flr)(T:Tbl)(now fine n l:Int)(i0 i1 i2 i3 i4 i5:Nat)(cm:Chunk)(R:HrS):List je2:=[⟨i0,sdC i1 now fine (.slice none 0 0),sdC 1 now fine (.slice none 0 0),sdC i1 now fine (.slice none 0 0)⟩,⟨i1,ndC D i2 i3 i4 i5,ndC D 2 3 4 5,ndC (D.to R) i2 i3 i4 i5⟩,⟨i2,fiF F,fiF F,fiF R.F⟩,⟨i3,tblC T,tblC T,tblC R.T⟩,⟨i4,twC n l,twC n l,twC n R.l⟩,⟨i5,cm,noC,noC⟩]
abbrev sy6(D:NdS)(F:Flr)(T:Tbl)(now fine n l:Int)(i0 i1 i2 i3 i4 i5:Nat)(cm:Chunk):List je2:=[⟨i0,sdC i1 now fine (.slice none 0 0),sdC 1 now fine (.slice none 0 0),noC⟩,⟨i1,ndC D i2 i3 i4 i5,ndC D 2 3 4 5,noC⟩,⟨i2,fiF F,fiF F,noC⟩,⟨i3,tblC T,tblC T,tblC T⟩,⟨i4,twC n l,twC n l,noC⟩,⟨i5,cm,noC,noC⟩]
abbrev K6(ss:List je2)(v':Value)(h':Hp):Prop:=N (Obl (Re (partX ss 0++madeX []) (.tuple #[]) v') (N (Obl (PostS (partX ss 0++madeX []) h' ss 0) (N (Obl (PostN (partX ss 0++madeX []) h' ss.length []) (N (Obl (PostX h' ss 0/\MadeP h' []) (N True))))))))
abbrev WP6(fn:Func)(cd:Code)(vs':List Value)(ss:List je2):Prop:=initK vs' fn.ntmps λt=>wpC prog tys ss.length cd (bodyQ prog tys fn λv st=>N (EndN ss st.h v (K6 ss))) ⟨t,partH ss⟩
variable{fn:Func}{cd:Code}{vs:List Value}{D:NdS}{F:Flr}{T:Tbl}{now fine n l:Int}{i2 i3 i4 i5:Nat}
theorem jfy{g:FuncId}{h:Hp}{cm:Chunk}(O:On6 D F T now fine n l i0 i1 i2 i3 i4 i5 K h cm)(R:HrS)(vs':List Value)(hf:prog.funcs[g]?=some fn)(hb:fn.body=some cd)(hr:∀xs w,(callFunc g xs).run prog w=.ok (.enter g xs) w)(hv:All2 (Re2 (partX (ss6 D F T now fine n l i0 i1 i2 i3 i4 i5 cm R) 0)) vs vs')(hwp:WP6 fn cd vs' (ss6 D F T now fine n l i0 i1 i2 i3 i4 i5 cm R)):
  qae prog g vs h (.tuple #[]) [(i0,sdC i1 now fine (.slice none 0 0)),(i1,ndC (D.to R) i2 i3 i4 i5),(i2,fiF R.F),(i3,tblC R.T),(i4,twC n R.l)] [i5]:=
 qar (λ_:Unit=>True) (λ_=>_) (ss6 D F T now fine n l i0 i1 i2 i3 i4 i5 cm R) [] vs' tysOK mixed hf hb hr ⟨O.h0,O.h1,O.h2,O.h3,O.h4,O.h5,xb⟩
  ⟨Q8M,Q8g,Q8t,Q7X,Q8o,Q82,xb⟩ (qde O.ne) Q9z xb hv Opens.same λ_ _=>hwp
variable{h':Hp}
theorem jhp{cm:Chunk}{R:HrS}(e0:h'[0]?=some (some (sdC 1 now fine (.slice none 0 0))))(e1:h'[1]?=some (some (ndC (D.to R) 2 3 4 5)))(e2:h'[2]?=some (some (fiF R.F)))(e3:h'[3]?=some (some (tblC R.T)))(e4:h'[4]?=some (some (twC n R.l))):N (EndN (ss6 D F T now fine n l i0 i1 i2 i3 i4 i5 cm R) h' (.tuple #[]) (K6 (ss6 D F T now fine n l i0 i1 i2 i3 i4 i5 cm R))):=by
 refine Bl ?_;refine Q3z ?_;refine Bc ⟨⟨_,e0,id,nlr _,lt4 (.ptr Q9S) (.plain rfl) (.plain rfl) (.plain rfl)⟩,Q90,⟨_,e2,id,nlr _,re7⟩,⟨_,e3,id,nlr _,nzj⟩,⟨_,e4,id,nlr _,re2⟩,xb⟩ ?_;refine Bc xb ?_;refine Bc ⟨Q9w,xb⟩ ?_;exact Be
abbrev D6(D:NdS)(now fine n:Int)(i1 i2 i3 i4 i5 K:Nat)(R:HrS)(κ:Nat):List Chunk:=[sdC i1 now fine (.slice (some ⟨K,0,some 0⟩) 1 κ),ndC (D.to R) i2 i3 i4 i5,fiF R.F,tblC R.T,twC n R.l,noC]
abbrev Y6(ss:List je2)(dd:Nat->List Chunk)(K sl:Nat)(x:Ou)(v':Value)(h':Hp):Prop:=N (jjm λκ=>1<=κ/\N (Obl (Re (partX ss 0++madeX [⟨K,sl,ouR [x] κ⟩]) (.tuple #[]) v') (N (Obl (PostS (partX ss 0++madeX [⟨K,sl,ouR [x] κ⟩]) h' (setD ss (dd κ)) 0) (N (Obl (PostN (partX ss 0++madeX [⟨K,sl,ouR [x] κ⟩]) h' ss.length [⟨K,sl,ouR [x] κ⟩]) (N (Obl (PostX h' (setD ss (dd κ)) 0/\MadeP h' [⟨K,sl,ouR [x] κ⟩]) (N True)))))))))
abbrev WY6(fn:Func)(cd:Code)(vs':List Value)(ss:List je2)(dd:Nat->List Chunk)(K sl:Nat)(x:Ou):Prop:=initK vs' fn.ntmps λt=>wpC prog tys ss.length cd (bodyQ prog tys fn λv st=>N (EndN ss st.h v (Y6 ss dd K sl x))) ⟨t,partH ss⟩
theorem jlx{g:FuncId}{h:Hp}{cm:Chunk}(O:On6 D F T now fine n l i0 i1 i2 i3 i4 i5 K h cm)(R:HrS)(x:Ou)(sl:Nat)(vs':List Value)(hf:prog.funcs[g]?=some fn)(hb:fn.body=some cd)(hr:∀xs w,(callFunc g xs).run prog w=.ok (.enter g xs) w)(hv:All2 (Re2 (partX (sy6 D F T now fine n l i0 i1 i2 i3 i4 i5 cm) 0)) vs vs')(hwp:WY6 fn cd vs' (sy6 D F T now fine n l i0 i1 i2 i3 i4 i5 cm) (D6 D now fine n i1 i2 i3 i4 i5 K R) K sl x):
  CallAll prog g vs h (λv ms=>∃κ:Nat,1<=κ/\v=.tuple #[]/\ms=[(i0,sdC i1 now fine (.slice (some ⟨K,0,some 0⟩) 1 κ)),(i1,ndC (D.to R) i2 i3 i4 i5),(i2,fiF R.F),(i3,tblC R.T),(i4,twC n R.l),(K,ouR [x] κ)]):=by
 refine qav (qa7 (λ_:Unit=>True) (λ_=>_) (λκ=>1<=κ) (λ_=>.tuple #[]) (sy6 D F T now fine n l i0 i1 i2 i3 i4 i5 cm) (D6 D now fine n i1 i2 i3 i4 i5 K R) (λκ=>[⟨K,sl,ouR [x] κ⟩]) vs' tysOK mixed hf hb hr ⟨O.h0,O.h1,O.h2,O.h3,O.h4,O.h5,xb⟩ ⟨Q9l,Q8E,⟨λ_=>⟨rfl,xi _⟩,nlr _,re7⟩,Q7X,Q93,Q82,xb⟩ (λκ _=>⟨Q8M,Q8g,Q8t,Q7X,Q8o,Q82,xb⟩) (qde O.ne) Q9z (λκ hκ=>⟨⟨O.hK,rfl,.inl (by show 0<κ*16;have:1<=κ:=hκ;omega),by simp⟩,xb⟩) hv Opens.same λ_ _=>hwp) λv ms hR=>?_
 obtain⟨κ,hκ,rfl,rfl⟩:=hR
 exact⟨κ,hκ,rfl,rfl⟩
theorem fiY{sl:Nat}{cm:Chunk}{R:HrS}{x:Ou}{κ:Nat}(hκ:1<=κ)(e0:h'[0]?=some (some (sdC 1 now fine (.slice (some ⟨sl,0,some 0⟩) 1 κ))))(e1:h'[1]?=some (some (ndC (D.to R) 2 3 4 5)))(e2:h'[2]?=some (some (fiF R.F)))(e3:h'[3]?=some (some (tblC R.T)))(e4:h'[4]?=some (some (twC n R.l)))(e6:h'[sl]?=some (some (ouR [x] κ)))(hsl:6<=sl):N (EndN (sy6 D F T now fine n l i0 i1 i2 i3 i4 i5 cm) h' (.tuple #[]) (Y6 (sy6 D F T now fine n l i0 i1 i2 i3 i4 i5 cm) (D6 D now fine n i1 i2 i3 i4 i5 K R) K sl x)):=by
 refine Bl ?_;refine Bn κ ⟨hκ,?_⟩;refine Q3z ?_;refine Bc ⟨⟨_,e0,id,nlr _,lt4 (.ptr Q9S) (.plain rfl) (.plain rfl) (.slice (q6r (l:=partX (sy6 D F T now fine n l i0 i1 i2 i3 i4 i5 cm) 0) λp hp=>by simp[partX] at hp;rcases hp with rfl|rfl|rfl|rfl|rfl|rfl<;>(show(_:Nat)≠sl;omega)))⟩,Q90,⟨_,e2,id,nlr _,re7⟩,⟨_,e3,id,nlr _,nzj⟩,⟨_,e4,id,nlr _,re2⟩,xb⟩ ?_;refine Bc ⟨⟨hsl,qay e6⟩,xb⟩ ?_;refine Bc ⟨Q9w,.inl rfl,xb⟩ ?_;exact Be
variable{m:Nat}
theorem q4x{f:Frm}{at_:Int}(B:Rg D F f m l)(hk:f.k=2)(hl0:l=0){h:Hp}{cm:Chunk}(O:On6 D F T now fine n l i0 i1 i2 i3 i4 i5 K h cm):
  qae prog 87 (hdA f at_ i0 i1) h (.tuple #[]) (m6 D now fine n i0 i1 i2 i3 i4 i5 (⟨upd D.S m ((D.S m).gotPoll at_ f.st),D.seq,l,F,T,none⟩:HrS)) [i5]:=by
 obtain⟨hm,hm64,hfr,hl,hs,hb,hF,hC⟩:=B
 refine jfy O _ (hdA f at_ 0 1) func87 Q9S (call87) Q8e ?_
 repeat' (refine Ba ?_;first|refine Q5P ?_|refine Q6x ?_|refine Bg (ei hk) ?_|fail)
 refine Ba ?_
 refine Bh Q9n λv ms hR=>?_
 obtain⟨rfl,rfl⟩:=hR
 repeat' (refine Ba ?_;first|refine Q5P ?_|refine Q6K ?_|fail)
 refine Ba ?_
 refine Bb (quv (D.se (upd D.S m ((D.S m).gotPoll at_ f.st))) now fine (.slice none 0 0) n l 3 0 0 0 0 f.s f.mk' 0 0 0 0 0 0 0 0 hl0 0 1 2 3 4 5 _ _ _ _ Q9S Q9S Q9S Q9S Q9S Q9S Q9V) ?_
 repeat' (refine Ba ?_;first|refine Q5P ?_|refine Q66 ?_|refine Q6c ?_|fail)
 refine Ba ?_
 exact jhp rfl rfl rfl rfl rfl
theorem q4y{f:Frm}{at_:Int}(B:Rg D F f m l)(hk:f.k=2)(hl0:¬ l=0)(ha:((upd D.S m ((D.S m).gotPoll at_ f.st)) m).b.ansP fine){h:Hp}{cm:Chunk}(O:On6 D F T now fine n l i0 i1 i2 i3 i4 i5 K h cm):
  CallAll prog 87 (hdA f at_ i0 i1) h (y6 D now fine n i0 i1 i2 i3 i4 i5 K (⟨upd (upd D.S m ((D.S m).gotPoll at_ f.st)) m ⟨((upd D.S m ((D.S m).gotPoll at_ f.st)) m).a,⟨2,((upd D.S m ((D.S m).gotPoll at_ f.st)) m).b.fr,fine,(D.boot*65536+D.seq),((upd D.S m ((D.S m).gotPoll at_ f.st)) m).b.sp⟩⟩,D.seq+1,l-1,F,T,none⟩:HrS) (⟨(jj6 f).by D now,fine⟩)):=by
 obtain⟨hm,hm64,hfr,hl,hs,hb,hF,hC⟩:=B
 refine jlx O _ _ 10 (hdA f at_ 0 1) func87 Q9S (call87) Q8e ?_
 repeat' (refine Ba ?_;first|refine Q5P ?_|refine Q6x ?_|refine Bg (ei hk) ?_|fail)
 refine Ba ?_
 refine Bh Q9n λv ms hR=>?_
 obtain⟨rfl,rfl⟩:=hR
 repeat' (refine Ba ?_;first|refine Q5S ?_|refine Q5U ?_|fail)
 refine Ba ?_
 refine Bv ?_
 refine Ba ?_
 refine Bt [0,1,2,3,4,5,6] [(7,[8,9,10,11,12])] Q9W ?_
 repeat' (refine Ba ?_;first|refine Q5P ?_|refine Q6K ?_|fail)
 refine Ba ?_
 refine Bw [0,1,2,3,4,5,10] _ Q9W Q8n λv ms hR=>?_
 obtain⟨κ,hκ,rfl,rfl⟩:=hR
 refine⟨by simp,?_⟩
 repeat' (refine Ba ?_;first|refine Q5P ?_|fail)
 refine Ba ?_
 refine Bh (jdr D.g (upd D.S m ((D.S m).gotPoll at_ f.st)) m hm64 fine (D.boot*65536+D.seq) ha 1 11 Q9S Q9S) λv ms hR=>?_
 obtain⟨rfl,rfl⟩:=hR
 repeat' (refine Ba ?_;first|refine Q5P ?_|refine Q66 ?_|refine Q6c ?_|fail)
 refine Ba ?_
 exact fiY hκ rfl rfl rfl rfl rfl rfl Q9V
theorem q4z{f:Frm}{at_:Int}(B:Rg D F f m l)(hk:f.k=2)(hl0:¬ l=0)(ha:¬ ((upd D.S m ((D.S m).gotPoll at_ f.st)) m).b.ansP fine){h:Hp}{cm:Chunk}(O:On6 D F T now fine n l i0 i1 i2 i3 i4 i5 K h cm):
  CallAll prog 87 (hdA f at_ i0 i1) h (y6 D now fine n i0 i1 i2 i3 i4 i5 K (⟨upd (upd D.S m ((D.S m).gotPoll at_ f.st)) m ((upd D.S m ((D.S m).gotPoll at_ f.st)) m),D.seq+1,l-1,F,T,none⟩:HrS) (⟨(jj6 f).by D now,fine⟩)):=by
 obtain⟨hm,hm64,hfr,hl,hs,hb,hF,hC⟩:=B
 refine jlx O _ _ 10 (hdA f at_ 0 1) func87 Q9S (call87) Q8e ?_
 repeat' (refine Ba ?_;first|refine Q5P ?_|refine Q6x ?_|refine Bg (ei hk) ?_|fail)
 refine Ba ?_
 refine Bh Q9n λv ms hR=>?_
 obtain⟨rfl,rfl⟩:=hR
 repeat' (refine Ba ?_;first|refine Q5S ?_|refine Q5U ?_|fail)
 refine Ba ?_
 refine Bv ?_
 refine Ba ?_
 refine Bt [0,1,2,3,4,5,6] [(7,[8,9,10,11,12])] Q9W ?_
 repeat' (refine Ba ?_;first|refine Q5P ?_|refine Q6K ?_|fail)
 refine Ba ?_
 refine Bw [0,1,2,3,4,5,10] _ Q9W Q8n λv ms hR=>?_
 obtain⟨κ,hκ,rfl,rfl⟩:=hR
 refine⟨by simp,?_⟩
 repeat' (refine Ba ?_;first|refine Q5P ?_|fail)
 refine Ba ?_
 refine Bh (jds D.g (upd D.S m ((D.S m).gotPoll at_ f.st)) m hm64 fine (D.boot*65536+D.seq) ha 1 11 Q9S Q9S) λv ms hR=>?_
 obtain⟨rfl,rfl⟩:=hR
 repeat' (refine Ba ?_;first|refine Q5P ?_|refine Q66 ?_|refine Q6c ?_|fail)
 refine Ba ?_
 exact fiY hκ rfl rfl rfl rfl rfl rfl Q9V
theorem q40{f:Frm}{at_:Int}(B:Rg D F f m l)(hk:f.k=3)(hg:¬ (D.S m).gotRespP at_ f.t1){h:Hp}{cm:Chunk}(O:On6 D F T now fine n l i0 i1 i2 i3 i4 i5 K h cm):
  qae prog 87 (hdA f at_ i0 i1) h (.tuple #[]) (m6 D now fine n i0 i1 i2 i3 i4 i5 (⟨upd D.S m (D.S m),D.seq,l,F,T,none⟩:HrS)) [i5]:=by
 obtain⟨hm,hm64,hfr,hl,hs,hb,hF,hC⟩:=B
 refine jfy O _ (hdA f at_ 0 1) func87 Q9S (call87) Q8e ?_
 repeat' (refine Ba ?_;first|refine Q5P ?_|refine Q6x ?_|refine Q6h ?_|fail)
 refine Ba ?_
 refine Bh (q1b D.g D.S m hm64 at_ f.t1 hg 1 8 Q9S Q9S) λv ms hR=>?_
 obtain⟨rfl,rfl⟩:=hR
 repeat' (refine Ba ?_;first|refine Q5P ?_|refine Q66 ?_|refine Q6c ?_|fail)
 refine Ba ?_
 exact jhp rfl rfl rfl rfl rfl
theorem q41{f:Frm}{at_:Int}(B:Rg D F f m l)(hk:f.k=3)(hg:(D.S m).gotRespP at_ f.t1)(he:¬ ((upd D.S m ⟨⟨2,(D.S m).a.fr,at_,(D.S m).a.mr,(D.S m).a.sp⟩,(D.S m).b⟩) m).a.endP fine){h:Hp}{cm:Chunk}(O:On6 D F T now fine n l i0 i1 i2 i3 i4 i5 K h cm):
  qae prog 87 (hdA f at_ i0 i1) h (.tuple #[]) (m6 D now fine n i0 i1 i2 i3 i4 i5 (⟨upd (upd D.S m ⟨⟨2,(D.S m).a.fr,at_,(D.S m).a.mr,(D.S m).a.sp⟩,(D.S m).b⟩) m ((upd D.S m ⟨⟨2,(D.S m).a.fr,at_,(D.S m).a.mr,(D.S m).a.sp⟩,(D.S m).b⟩) m),D.seq,l,F,T,none⟩:HrS)) [i5]:=by
 obtain⟨hm,hm64,hfr,hl,hs,hb,hF,hC⟩:=B
 refine jfy O _ (hdA f at_ 0 1) func87 Q9S (call87) Q8e ?_
 repeat' (refine Ba ?_;first|refine Q5P ?_|refine Q6x ?_|refine Q6h ?_|fail)
 refine Ba ?_
 refine Bh Q9j λv ms hR=>?_
 obtain⟨rfl,rfl⟩:=hR
 repeat' (refine Ba ?_;first|refine Q5P ?_|refine Q66 ?_|refine Q6c ?_|fail)
 refine Ba ?_
 refine Bh (q9y D.g (upd D.S m ⟨⟨2,(D.S m).a.fr,at_,(D.S m).a.mr,(D.S m).a.sp⟩,(D.S m).b⟩) m hm64 fine he 1 9 Q9S Q9S) λv ms hR=>?_
 obtain⟨rfl,rfl⟩:=hR
 repeat' (refine Ba ?_;first|refine Q5P ?_|refine Q66 ?_|refine Q6c ?_|fail)
 refine Ba ?_
 exact jhp rfl rfl rfl rfl rfl
theorem q42{f:Frm}{at_:Int}(B:Rg D F f m l)(hk:f.k=3)(hg:(D.S m).gotRespP at_ f.t1)(he:((upd D.S m ⟨⟨2,(D.S m).a.fr,at_,(D.S m).a.mr,(D.S m).a.sp⟩,(D.S m).b⟩) m).a.endP fine)(hl0:l=0){h:Hp}{cm:Chunk}(O:On6 D F T now fine n l i0 i1 i2 i3 i4 i5 K h cm):
  qae prog 87 (hdA f at_ i0 i1) h (.tuple #[]) (m6 D now fine n i0 i1 i2 i3 i4 i5 (⟨upd (upd D.S m ⟨⟨2,(D.S m).a.fr,at_,(D.S m).a.mr,(D.S m).a.sp⟩,(D.S m).b⟩) m ⟨Half.o,((upd D.S m ⟨⟨2,(D.S m).a.fr,at_,(D.S m).a.mr,(D.S m).a.sp⟩,(D.S m).b⟩) m).b⟩,D.seq,l,F,T,none⟩:HrS)) [i5]:=by
 obtain⟨hm,hm64,hfr,hl,hs,hb,hF,hC⟩:=B
 refine jfy O _ (hdA f at_ 0 1) func87 Q9S (call87) Q8e ?_
 repeat' (refine Ba ?_;first|refine Q5P ?_|refine Q6x ?_|refine Q6h ?_|fail)
 refine Ba ?_
 refine Bh Q9j λv ms hR=>?_
 obtain⟨rfl,rfl⟩:=hR
 repeat' (refine Ba ?_;first|refine Q5P ?_|refine Q66 ?_|refine Q6c ?_|fail)
 refine Ba ?_
 refine Bh Q97 λv ms hR=>?_
 obtain⟨rfl,rfl⟩:=hR
 repeat' (refine Ba ?_;first|refine Q5P ?_|refine Q6K ?_|fail)
 refine Ba ?_
 refine Bb (quv (D.se (upd (upd D.S m ⟨⟨2,(D.S m).a.fr,at_,(D.S m).a.mr,(D.S m).a.sp⟩,(D.S m).b⟩) m ⟨Half.o,((upd D.S m ⟨⟨2,(D.S m).a.fr,at_,(D.S m).a.mr,(D.S m).a.sp⟩,(D.S m).b⟩) m).b⟩)) now fine (.slice none 0 0) n l 4 0 0 0 0 f.s (IntKind.i64.wrap (((upd D.S m ⟨⟨2,(D.S m).a.fr,at_,(D.S m).a.mr,(D.S m).a.sp⟩,(D.S m).b⟩) m).a.to-((upd D.S m ⟨⟨2,(D.S m).a.fr,at_,(D.S m).a.mr,(D.S m).a.sp⟩,(D.S m).b⟩) m).a.fr)) (IntKind.i64.wrap (fine-((upd D.S m ⟨⟨2,(D.S m).a.fr,at_,(D.S m).a.mr,(D.S m).a.sp⟩,(D.S m).b⟩) m).a.to)) 0 f.mk' 0 0 0 0 0 hl0 0 1 2 3 4 5 _ _ _ _ Q9S Q9S Q9S Q9S Q9S Q9S Q9V) ?_
 repeat' (refine Ba ?_;first|refine Q5P ?_|refine Q66 ?_|refine Q6c ?_|fail)
 refine Ba ?_
 exact jhp rfl rfl rfl rfl rfl
theorem q43{f:Frm}{at_:Int}(B:Rg D F f m l)(hk:f.k=3)(hg:(D.S m).gotRespP at_ f.t1)(he:((upd D.S m ⟨⟨2,(D.S m).a.fr,at_,(D.S m).a.mr,(D.S m).a.sp⟩,(D.S m).b⟩) m).a.endP fine)(hl0:¬ l=0){h:Hp}{cm:Chunk}(O:On6 D F T now fine n l i0 i1 i2 i3 i4 i5 K h cm):
  CallAll prog 87 (hdA f at_ i0 i1) h (y6 D now fine n i0 i1 i2 i3 i4 i5 K (⟨upd (upd D.S m ⟨⟨2,(D.S m).a.fr,at_,(D.S m).a.mr,(D.S m).a.sp⟩,(D.S m).b⟩) m ⟨Half.o,((upd D.S m ⟨⟨2,(D.S m).a.fr,at_,(D.S m).a.mr,(D.S m).a.sp⟩,(D.S m).b⟩) m).b⟩,D.seq+1,l-1,F,T,none⟩:HrS) (⟨(jpt f (IntKind.i64.wrap (((upd D.S m ⟨⟨2,(D.S m).a.fr,at_,(D.S m).a.mr,(D.S m).a.sp⟩,(D.S m).b⟩) m).a.to-((upd D.S m ⟨⟨2,(D.S m).a.fr,at_,(D.S m).a.mr,(D.S m).a.sp⟩,(D.S m).b⟩) m).a.fr)) (IntKind.i64.wrap (fine-((upd D.S m ⟨⟨2,(D.S m).a.fr,at_,(D.S m).a.mr,(D.S m).a.sp⟩,(D.S m).b⟩) m).a.to))).by D now,fine⟩)):=by
 obtain⟨hm,hm64,hfr,hl,hs,hb,hF,hC⟩:=B
 refine jlx O _ _ 11 (hdA f at_ 0 1) func87 Q9S (call87) Q8e ?_
 repeat' (refine Ba ?_;first|refine Q5P ?_|refine Q6x ?_|refine Q6h ?_|fail)
 refine Ba ?_
 refine Bh Q9j λv ms hR=>?_
 obtain⟨rfl,rfl⟩:=hR
 repeat' (refine Ba ?_;first|refine Q5P ?_|refine Q66 ?_|refine Q6c ?_|fail)
 refine Ba ?_
 refine Bh Q97 λv ms hR=>?_
 obtain⟨rfl,rfl⟩:=hR
 repeat' (refine Ba ?_;first|refine Q5S ?_|refine Q5U ?_|fail)
 refine Ba ?_
 refine Bv ?_
 refine Ba ?_
 refine Bt [0,1,2,3,4,5,6,7,8] [(9,[])] Q9W ?_
 repeat' (refine Ba ?_;first|refine Q5P ?_|refine Q6K ?_|fail)
 refine Ba ?_
 refine Bw [0,1,2,3,4,5,11] _ Q9W (λh₂ hh=>ql2 (D.se (upd (upd D.S m ⟨⟨2,(D.S m).a.fr,at_,(D.S m).a.mr,(D.S m).a.sp⟩,(D.S m).b⟩) m ⟨Half.o,((upd D.S m ⟨⟨2,(D.S m).a.fr,at_,(D.S m).a.mr,(D.S m).a.sp⟩,(D.S m).b⟩) m).b⟩)) (jpt f (IntKind.i64.wrap (((upd D.S m ⟨⟨2,(D.S m).a.fr,at_,(D.S m).a.mr,(D.S m).a.sp⟩,(D.S m).b⟩) m).a.to-((upd D.S m ⟨⟨2,(D.S m).a.fr,at_,(D.S m).a.mr,(D.S m).a.sp⟩,(D.S m).b⟩) m).a.fr)) (IntKind.i64.wrap (fine-((upd D.S m ⟨⟨2,(D.S m).a.fr,at_,(D.S m).a.mr,(D.S m).a.sp⟩,(D.S m).b⟩) m).a.to))) now fine n l Q9R hs hb 0 1 2 3 4 5 11 h₂ _ _ _ Q8w ((hh 1 Qa2).trans rfl) Q8R ((hh 3 Qa2).trans rfl) ((hh 4 Qa2).trans rfl) Q8X ((hh 11 Qa2).trans rfl) Q9V) λv ms hR=>?_
 obtain⟨κ,hκ,rfl,rfl⟩:=hR
 refine⟨by simp,?_⟩
 repeat' (refine Ba ?_;first|refine Q5P ?_|refine Q66 ?_|refine Q6c ?_|fail)
 refine Ba ?_
 exact fiY hκ rfl rfl rfl rfl rfl rfl Q9V
theorem q9z{f:Frm}{at_:Int}(B:Rg D F f m l)(hk:f.k=4)(hg:¬ (D.S m).gotFinalP at_ f.wn){h:Hp}{cm:Chunk}(O:On6 D F T now fine n l i0 i1 i2 i3 i4 i5 K h cm):
  qae prog 87 (hdA f at_ i0 i1) h (.tuple #[]) (m6 D now fine n i0 i1 i2 i3 i4 i5 (⟨upd D.S m (D.S m),D.seq,l,F,T,none⟩:HrS)) [i5]:=by
 obtain⟨hm,hm64,hfr,hl,hs,hb,hF,hC⟩:=B
 refine jfy O _ (hdA f at_ 0 1) func87 Q9S (call87) Q8e ?_
 repeat' (refine Ba ?_;first|refine Q5P ?_|refine Q6x ?_|refine Q6h ?_|fail)
 refine Ba ?_
 refine Bh (qwv D.g D.S m hm64 at_ f.t1 f.t2 f.wn hg 1 8 Q9S Q9S) λv ms hR=>?_
 obtain⟨rfl,rfl⟩:=hR
 repeat' (refine Ba ?_;first|refine Q5P ?_|refine Q66 ?_|refine Q6c ?_|fail)
 refine Ba ?_
 exact jhp rfl rfl rfl rfl rfl
theorem q90{f:Frm}{at_:Int}(B:Rg D F f m l)(hk:f.k=4)(hg:(D.S m).gotFinalP at_ f.wn){h:Hp}{cm:Chunk}(O:On6 D F T now fine n l i0 i1 i2 i3 i4 i5 K h cm):
  qae prog 87 (hdA f at_ i0 i1) h (.tuple #[]) (m6 D now fine n i0 i1 i2 i3 i4 i5 (⟨upd D.S m ⟨(D.S m).a,Half.o⟩,D.seq,l,qcx D F T f.s f.t1 (IntKind.i64.wrap ((D.S m).b.to-(D.S m).b.fr)) f.t2 (IntKind.i64.wrap (at_-(D.S m).b.to)) (D.S m).b.sp now,T,none⟩:HrS)) [i5]:=by
 obtain⟨hm,hm64,hfr,hl,hs,hb,hF,hC⟩:=B
 refine jfy O _ (hdA f at_ 0 1) func87 Q9S (call87) Q8e ?_
 repeat' (refine Ba ?_;first|refine Q5P ?_|refine Q6x ?_|refine Q6h ?_|fail)
 refine Ba ?_
 refine Bh (qwu D.g D.S m hm64 at_ f.t1 f.t2 f.wn hg 1 8 Q9S Q9S) λv ms hR=>?_
 obtain⟨rfl,rfl⟩:=hR
 repeat' (refine Ba ?_;first|refine Q5P ?_|refine Q66 ?_|refine Q6c ?_|fail)
 refine Ba ?_
 refine Bb (qs1 (D.se (upd D.S m ⟨(D.S m).a,Half.o⟩)) F T _ f.s f.t1 _ f.t2 _ _ now hF hC 1 2 3 (q0w _ _ _ _ _) _ Q9S Q9S Q9S Q9V) ?_
 repeat' (refine Ba ?_;first|refine Q5P ?_|refine Q66 ?_|refine Q6c ?_|fail)
 refine Ba ?_
 exact jhp rfl rfl rfl rfl rfl
def NdS.ta(D:NdS)(told asked seq:Int)(S:Nat->Ses):NdS:=⟨D.C,D.id,D.boot,D.g,S,seq,told,asked,D.bad⟩
def Tbl.get(T:Tbl)(k:Int):Ent:=(dGet T.E k).getD Ent.zero
theorem jj7(T:Tbl)(k:Int)(i:Nat)(h:Hp)(hi:h[i]?=some (some (tblC T))):qae prog 73 [xd i,xc k] h (.tuple ⟨[entV (T.get k),.bool (dGet T.E k).isSome]⟩) [(i,tblC T)] []:=by
 unfold Tbl.get;cases hd:dGet T.E k with
 | some e=>exact jk1 T k e hd i h hi
 | none=>exact jk2 T k hd i h hi
def jpv(k:Int)(e:Ent):Frm:=⟨6,0,0,0,0,0,0,0,k,e.when_,e.x,e.y,e.a,e.b,e.d⟩
def je3(D:NdS)(T:Tbl):Int×Bool:=jgc D.told (jj5 T.E (·.has))
variable{c:Chunk}
theorem qks{P:Program}{g:FuncId}{h:Hp}{R:Value->Mz->Prop}(i:Nat)(d:Chunk)(hi:h[i]?=some (some c))(hle:ChunkLe d c)(hR:∀v ms,R v ms->modH (h.set i (some d)) ms=modH h ms)(hc:CallAll P g vs (h.set i (some d)) R):CallAll P g vs h R:=λX ρ w xs H hx=>by
 have H':=H.say hi hle.1 hle.2.1 hle.2.2.1 hle.2.2.2;have hf:∀j,Sx.Fil (h.set i (some d)) j↔Sx.Fil h j:=λj=>by
  have hl:=(xe.1 hi).1;unfold Sx.Fil;by_cases e:i=j
  .subst e;rw[xw hl];exact⟨λ_=>⟨c,hi⟩,λ_=>⟨d,rfl⟩⟩
  .rw[xu e]
 have hF:Sx.Fil (h.set i (some d))=Sx.Fil h:=funext λj=>propext (hf j)
 have hx':All2 (Den (Sx.Fil (h.set i (some d))) ρ) vs xs:=by rw[hF];exact hx
 rcases hc X ρ w xs H' hx' with ⟨x,w',h1,v,ms,ρ',h2,h3,h4,h5⟩|⟨h1,h2⟩
 .exact .inl ⟨x,w',h1,v,ms,ρ',h2,by rw[<-hF];exact h3,by rw[<-hR v ms h2];exact h4,by rw[<-hR v ms h2];exact h5⟩
 .refine .inr ⟨h1,h2.mono ?_⟩;rintro e w' ⟨x,he,v,ms,ρ',h2,h3,h4,h5⟩;exact⟨x,he,v,ms,ρ',h2,by rw[<-hF];exact h3,by rw[<-hR v ms h2];exact h4,by rw[<-hR v ms h2];exact h5⟩
theorem qoz(D:NdS)(k:Int)(f t b m:Nat){x:Ext}(hx:x=jfb jfo 64 D.g D.S):ChunkLe (ndC (D.ta k D.asked D.seq D.S) f t b m) (@Chunk.mk x true 85 ((82,1,xc k)::(ndC D f t b m).ps)):=
 ⟨λh=>h,nlr _,λj hj=>by
  have hj:j<85:=hj;by_cases h:j<79
  .have e1:∀(a:Value) r,qa9 ((79,6,a)::r) j=qa9 r j:=λa r=>by rw[qan,if_neg Q9R]
   have e2:∀(a:Value) r,qa9 ((82,1,a)::r) j=qa9 r j:=λa r=>by rw[qan,if_neg Q9R]
   exact Q57
  .obtain⟨i,rfl⟩:∃i,j=79+i:=⟨j-79,by omega⟩;have h6:i<6:=by omega
   match i,h6 with
   | 0,_=>exact Eq.trans (b:=xd b) rfl rfl
   | 1,_=>exact Eq.trans (b:=xd m) rfl rfl
   | 2,_=>exact Eq.trans (b:=.int .i64 D.seq) rfl rfl
   | 3,_=>exact Eq.trans (b:=.int .i64 k) rfl rfl
   | 4,_=>exact Eq.trans (b:=.int .i64 D.asked) rfl rfl
   | 5,_=>exact Eq.trans (b:=.int .i64 D.bad) rfl rfl,.inr hx.symm⟩
theorem qvg(D:NdS)(k:Int)(f t b m:Nat){x:Ext}(hx:x=jfb jfo 64 D.g D.S):ChunkLe (ndC (D.ta D.told k D.seq D.S) f t b m) (@Chunk.mk x true 85 ((83,1,xc k)::(ndC D f t b m).ps)):=
 ⟨λh=>h,nlr _,λj hj=>by
  have hj:j<85:=hj;by_cases h:j<79
  .have e1:∀(a:Value) r,qa9 ((79,6,a)::r) j=qa9 r j:=λa r=>by rw[qan,if_neg Q9R]
   have e2:∀(a:Value) r,qa9 ((83,1,a)::r) j=qa9 r j:=λa r=>by rw[qan,if_neg Q9R]
   exact Q57
  .obtain⟨i,rfl⟩:∃i,j=79+i:=⟨j-79,by omega⟩;have h6:i<6:=by omega
   match i,h6 with
   | 0,_=>exact Eq.trans (b:=xd b) rfl rfl
   | 1,_=>exact Eq.trans (b:=xd m) rfl rfl
   | 2,_=>exact Eq.trans (b:=.int .i64 D.seq) rfl rfl
   | 3,_=>exact Eq.trans (b:=.int .i64 D.told) rfl rfl
   | 4,_=>exact Eq.trans (b:=.int .i64 k) rfl rfl
   | 5,_=>exact Eq.trans (b:=.int .i64 D.bad) rfl rfl,.inr hx.symm⟩
theorem qs2{f t b f' t' b' m':Nat}(h:ChunkLe (ndC D f' t' b' m') c)(hf:ixK ix f'=some f)(ht:ixK ix t'=some t)(hb:ixK ix b'=some b)(hm:ixK ix m'=some m):∀j,j<85->Re1 ix ((ndC D f t b m).f j) (c.f j):=λj hj=>by
 rw[<-h.2.2.1 j hj];exact jhd hf ht hb hm j hj
theorem nt{b:Bool}(h:b=true):(!b)=false:=by rw[h];rfl
theorem nf{b:Bool}(h:b=false):(!b)=true:=by rw[h];rfl
theorem jpw{a b:Int}(h:¬ a=b):(a != b)=true:=by simpa using h
structure On7(D:NdS)(T:Tbl)(now fine n l:Int)(S:List Ou)(cap i0 i1 i2 i3 i4 i5 i6 K:Nat)(h:Hp)(cf cm:Chunk):Prop where
 h0:h[i0]?=some (some (sdC i1 now fine (.slice (some ⟨i6,0,some 0⟩) S.length cap)))
 h1:h[i1]?=some (some (ndC D i2 i3 i4 i5))
 h2:h[i2]?=some (some cf)
 h3:h[i3]?=some (some (tblC T))
 h4:h[i4]?=some (some (twC n l))
 h5:h[i5]?=some (some cm)
 h6:h[i6]?=some (some (ouR S cap))
 hK:h[K]?=some none
 ne:[i0,i1,i2,i3,i4,i5,i6].Nodup
abbrev s7(D:NdS)(T:Tbl)(now fine n l:Int)(S:List Ou)(cap i0 i1 i2 i3 i4 i5 i6:Nat)(cf cm:Chunk)(D2:NdS):List je2:=[⟨i0,sdC i1 now fine (.slice (some ⟨i6,0,some 0⟩) S.length cap),sdC 1 now fine (.slice (some ⟨6,0,some 0⟩) S.length cap),sdC i1 now fine (.slice (some ⟨i6,0,some 0⟩) S.length cap)⟩,⟨i1,ndC D i2 i3 i4 i5,ndC D 2 3 4 5,ndC D2 i2 i3 i4 i5⟩,⟨i2,cf,noC,noC⟩,⟨i3,tblC T,tblC T,tblC T⟩,⟨i4,twC n l,twC n l,twC n l⟩,⟨i5,cm,noC,noC⟩,⟨i6,ouR S cap,ouR S cap,ouR S cap⟩]
abbrev t7(D:NdS)(T:Tbl)(now fine n l:Int)(S:List Ou)(cap i0 i1 i2 i3 i4 i5 i6:Nat)(cf cm:Chunk):List je2:=[⟨i0,sdC i1 now fine (.slice (some ⟨i6,0,some 0⟩) S.length cap),sdC 1 now fine (.slice (some ⟨6,0,some 0⟩) S.length cap),noC⟩,⟨i1,ndC D i2 i3 i4 i5,ndC D 2 3 4 5,noC⟩,⟨i2,cf,noC,noC⟩,⟨i3,tblC T,tblC T,tblC T⟩,⟨i4,twC n l,twC n l,noC⟩,⟨i5,cm,noC,noC⟩,⟨i6,ouR S cap,ouR S cap,noC⟩]
abbrev m7(D2:NdS)(T:Tbl)(now fine n l:Int)(S:List Ou)(cap i0 i1 i2 i3 i4 i5 i6:Nat):Mz:=[(i0,sdC i1 now fine (.slice (some ⟨i6,0,some 0⟩) S.length cap)),(i1,ndC D2 i2 i3 i4 i5),(i3,tblC T),(i4,twC n l),(i6,ouR S cap)]
variable{S:List Ou}{cap i6:Nat}{cf:Chunk}
theorem jhz{g:FuncId}{h:Hp}{cm:Chunk}(O:On7 D T now fine n l S cap i0 i1 i2 i3 i4 i5 i6 K h cf cm)(D2:NdS)(hf:prog.funcs[g]?=some fn)(hb:fn.body=some cd)(hr:∀xs w,(callFunc g xs).run prog w=.ok (.enter g xs) w)(hwp:WP6 fn cd [xd 1,xd 0] (s7 D T now fine n l S cap i0 i1 i2 i3 i4 i5 i6 cf cm D2)):
  qae prog g [xd i1,xd i0] h (.tuple #[]) (m7 D2 T now fine n l S cap i0 i1 i2 i3 i4 i5 i6) [i2,i5]:=
 qar (λ_:Unit=>True) (λ_=>_) (s7 D T now fine n l S cap i0 i1 i2 i3 i4 i5 i6 cf cm D2) [] [xd 1,xd 0] tysOK mixed hf hb hr ⟨O.h0,O.h1,O.h2,O.h3,O.h4,O.h5,O.h6,xb⟩
  ⟨⟨λ_=>⟨rfl,nlr _⟩,nlr _,lt4 (.ptr Q9S) (.plain rfl) (.plain rfl) (.slice Q9S)⟩,Q8g,Q82,Q7X,Q8o,Q82,⟨λ_=>⟨rfl,nlr _⟩,nlr _,qeh⟩,xb⟩ (qde O.ne) Q9r xb ⟨.ptr Q9S,.ptr Q9S,xb⟩ Opens.same λ_ _=>hwp
theorem jll{D2:NdS}{cm:Chunk}(hle:ChunkLe (ndC D2 2 3 4 5) c)(e0:h'[0]?=some (some (sdC 1 now fine (.slice (some ⟨6,0,some 0⟩) S.length cap))))(e1:h'[1]?=some (some c))(e3:h'[3]?=some (some (tblC T)))(e4:h'[4]?=some (some (twC n l)))(e6:h'[6]?=some (some (ouR S cap))):N (EndN (s7 D T now fine n l S cap i0 i1 i2 i3 i4 i5 i6 cf cm D2) h' (.tuple #[]) (K6 (s7 D T now fine n l S cap i0 i1 i2 i3 i4 i5 i6 cf cm D2))):=by
 have hx:(ndC D2 i2 i3 i4 i5).x=Ext.none\/∃c',h'[1]?=some (some c')/\(ndC D2 i2 i3 i4 i5).x=c'.x:=hle.2.2.2.imp id λe=>⟨c,e1,e⟩
 refine Bl ?_;exact Q24
abbrev e7(T:Tbl)(now fine n l:Int)(S:List Ou)(x:Ou)(cap i1 i2 i3 i4 i5 i6 K:Nat)(D2:NdS)(κ:Option Nat):List Chunk:=match κ with|none=>[sdC i1 now fine (.slice (some ⟨i6,0,some 0⟩) (S.length+1) cap),ndC D2 i2 i3 i4 i5,noC,tblC T,twC n (l-1),noC,ouR (S++[x]) cap]|some κ=>[sdC i1 now fine (.slice (some ⟨K,0,some 0⟩) (S.length+1) κ),ndC D2 i2 i3 i4 i5,noC,tblC T,twC n (l-1),noC,ouR S cap]
abbrev f7(S:List Ou)(x:Ou)(K sl:Nat)(κ:Option Nat):List jfp:=match κ with|none=>[]|some κ=>[⟨K,sl,ouR (S++[x]) κ⟩]
abbrev o7(S:List Ou)(cap:Nat)(κ:Option Nat):Prop:=match κ with|none=>S.length<cap|some κ=>S.length+1<=κ
abbrev Y7(ss:List je2)(S:List Ou)(cap:Nat)(dd:Option Nat->List Chunk)(nn:Option Nat->List jfp)(v':Value)(h':Hp):Prop:=N (jjm λκ=>o7 S cap κ/\N (Obl (Re (partX ss 0++madeX (nn κ)) (.tuple #[]) v') (N (Obl (PostS (partX ss 0++madeX (nn κ)) h' (setD ss (dd κ)) 0) (N (Obl (PostN (partX ss 0++madeX (nn κ)) h' ss.length (nn κ)) (N (Obl (PostX h' (setD ss (dd κ)) 0/\MadeP h' (nn κ)) (N True)))))))))
abbrev WY7(fn:Func)(cd:Code)(vs':List Value)(ss:List je2)(S:List Ou)(cap:Nat)(dd:Option Nat->List Chunk)(nn:Option Nat->List jfp):Prop:=initK vs' fn.ntmps λt=>wpC prog tys ss.length cd (bodyQ prog tys fn λv st=>N (EndN ss st.h v (Y7 ss S cap dd nn))) ⟨t,partH ss⟩
def jj8(D':NdS)(T:Tbl)(now fine:Int)(n l:Int)(S:List Ou)(x:Ou)(cap:Nat)(i0 i1 i2 i3 i4 i5 i6 K:Nat)(v:Value)(ms:Mz):Prop:=
 v=.tuple #[]/\((S.length<cap/\ms=[(i0,sdC i1 now fine (.slice (some ⟨i6,0,some 0⟩) (S.length+1) cap)),(i1,ndC D' i2 i3 i4 i5),(i3,tblC T),(i4,twC n (l-1)),(i6,ouR (S++[x]) cap)])\/
  ∃κ:Nat,S.length+1<=κ/\ms=[(i0,sdC i1 now fine (.slice (some ⟨K,0,some 0⟩) (S.length+1) κ)),(i1,ndC D' i2 i3 i4 i5),(i3,tblC T),(i4,twC n (l-1)),(i6,ouR S cap),(K,ouR (S++[x]) κ)])
theorem jqw{g:FuncId}{h:Hp}{cm:Chunk}(O:On7 D T now fine n l S cap i0 i1 i2 i3 i4 i5 i6 K h cf cm)(D2:NdS)(x:Ou)(sl:Nat)(hf:prog.funcs[g]?=some fn)(hb:fn.body=some cd)(hr:∀xs w,(callFunc g xs).run prog w=.ok (.enter g xs) w)(hwp:WY7 fn cd [xd 1,xd 0] (t7 D T now fine n l S cap i0 i1 i2 i3 i4 i5 i6 cf cm) S cap (e7 T now fine n l S x cap i1 i2 i3 i4 i5 i6 K D2) (f7 S x K sl)):
  CallAll prog g [xd i1,xd i0] h (jj8 D2 T now fine n l S x cap i0 i1 i2 i3 i4 i5 i6 K):=by
 refine qav (qa7 (λ_:Unit=>True) (λ_=>_) (o7 S cap) (λ_=>.tuple #[]) (t7 D T now fine n l S cap i0 i1 i2 i3 i4 i5 i6 cf cm) (e7 T now fine n l S x cap i1 i2 i3 i4 i5 i6 K D2) (f7 S x K sl) [xd 1,xd 0] tysOK mixed hf hb hr ⟨O.h0,O.h1,O.h2,O.h3,O.h4,O.h5,O.h6,xb⟩ ⟨Q9h,Q8E,Q82,Q7X,Q93,Q82,⟨λ_=>⟨rfl,xi _⟩,nlr _,qeh⟩,xb⟩ (λκ hκ=>?_) (qde O.ne) Q9r (λκ hκ=>?_) ⟨.ptr Q9S,.ptr Q9S,xb⟩ Opens.same λ_ _=>hwp) λv ms hR=>?_
 .cases κ with
  | none=>exact⟨⟨λ_=>⟨rfl,nlr _⟩,nlr _,lt4 (.ptr Q9S) (.plain rfl) (.plain rfl) (.slice Q9S)⟩,⟨λ_=>⟨rfl,nlr _⟩,nlr _,jhd Q9S Q9S Q9S Q9S⟩,⟨λh=>Qaa,xi _,nzj⟩,⟨λh=>⟨rfl,nlr _⟩,nlr _,nzj⟩,⟨λ_=>⟨rfl,nlr _⟩,nlr _,re2⟩,⟨λh=>Qaa,xi _,nzj⟩,⟨λ_=>⟨rfl,nlr _⟩,nlr _,qeh⟩,xb⟩
  | some κ=>exact⟨⟨λ_=>⟨rfl,nlr _⟩,nlr _,lt4 (.ptr Q9S) (.plain rfl) (.plain rfl) (.slice Q9S)⟩,⟨λ_=>⟨rfl,nlr _⟩,nlr _,jhd Q9S Q9S Q9S Q9S⟩,⟨λh=>Qaa,xi _,nzj⟩,⟨λh=>⟨rfl,nlr _⟩,nlr _,nzj⟩,⟨λ_=>⟨rfl,nlr _⟩,nlr _,re2⟩,⟨λh=>Qaa,xi _,nzj⟩,⟨λ_=>⟨rfl,nlr _⟩,nlr _,qeh⟩,xb⟩
 .cases κ with
  | none=>exact trivial
  | some κ=>exact⟨⟨O.hK,rfl,.inl Qbh,by simp⟩,xb⟩
 .exact Q4f
theorem jqx{D2:NdS}{x:Ou}{sl:Nat}{cm:Chunk}(hκ:S.length<cap)(hle:ChunkLe (ndC D2 2 3 4 5) c)(e0:h'[0]?=some (some (sdC 1 now fine (.slice (some ⟨6,0,some 0⟩) (S.length+1) cap))))(e1:h'[1]?=some (some c))(e3:h'[3]?=some (some (tblC T)))(e4:h'[4]?=some (some (twC n (l-1))))(e6:h'[6]?=some (some (ouR (S++[x]) cap))):N (EndN (t7 D T now fine n l S cap i0 i1 i2 i3 i4 i5 i6 cf cm) h' (.tuple #[]) (Y7 (t7 D T now fine n l S cap i0 i1 i2 i3 i4 i5 i6 cf cm) S cap (e7 T now fine n l S x cap i1 i2 i3 i4 i5 i6 K D2) (f7 S x K sl))):=by
 have hx:(ndC D2 i2 i3 i4 i5).x=Ext.none\/∃c',h'[1]?=some (some c')/\(ndC D2 i2 i3 i4 i5).x=c'.x:=hle.2.2.2.imp id λe=>⟨c,e1,e⟩
 refine Bl ?_;refine Bn none ⟨hκ,?_⟩;exact Q24
theorem jqy{D2:NdS}{x:Ou}{sl κ:Nat}{cm:Chunk}(hκ:S.length+1<=κ)(hle:ChunkLe (ndC D2 2 3 4 5) c)(e0:h'[0]?=some (some (sdC 1 now fine (.slice (some ⟨sl,0,some 0⟩) (S.length+1) κ))))(e1:h'[1]?=some (some c))(e3:h'[3]?=some (some (tblC T)))(e4:h'[4]?=some (some (twC n (l-1))))(e6:h'[6]?=some (some (ouR S cap)))(e9:h'[sl]?=some (some (ouR (S++[x]) κ)))(hsl:7<=sl):N (EndN (t7 D T now fine n l S cap i0 i1 i2 i3 i4 i5 i6 cf cm) h' (.tuple #[]) (Y7 (t7 D T now fine n l S cap i0 i1 i2 i3 i4 i5 i6 cf cm) S cap (e7 T now fine n l S x cap i1 i2 i3 i4 i5 i6 K D2) (f7 S x K sl))):=by
 have hx:(ndC D2 i2 i3 i4 i5).x=Ext.none\/∃c',h'[1]?=some (some c')/\(ndC D2 i2 i3 i4 i5).x=c'.x:=hle.2.2.2.imp id λe=>⟨c,e1,e⟩
 refine Bl ?_;refine Bn (some κ) ⟨hκ,?_⟩;refine Q3z ?_;refine Bc ⟨⟨_,e0,id,nlr _,lt4 (.ptr Q9S) (.plain rfl) (.plain rfl) (.slice (q6r (l:=partX (t7 D T now fine n l S cap i0 i1 i2 i3 i4 i5 i6 cf cm) 0) λp hp=>by simp[partX] at hp;rcases hp with rfl|rfl|rfl|rfl|rfl|rfl|rfl<;>(show(_:Nat)≠sl;omega)))⟩,Q8U,⟨_,e3,id,nlr _,nzj⟩,⟨_,e4,id,nlr _,re2⟩,qay e6,xb⟩ ?_;refine Bc ⟨⟨hsl,qay e9⟩,xb⟩ ?_;refine Bc ⟨Q9D,.inl rfl,xb⟩ ?_;exact Be
theorem jdt(hE:0<T.E.length/\T.E.length<=64)(hk:(je3 D T).2=false){h:Hp}{cm:Chunk}(O:On7 D T now fine n l S cap i0 i1 i2 i3 i4 i5 i6 K h cf cm):
  qae prog 42 [xd i1,xd i0] h (.tuple #[]) (m7 (D) T now fine n l S cap i0 i1 i2 i3 i4 i5 i6) [i2,i5]:=by
 refine jhz O _ func42 Q9S (call42) ?_
 repeat' (refine Ba ?_;first|refine Q5S ?_|refine Q5U ?_|fail)
 refine Ba ?_
 refine Bv ?_
 refine Ba ?_
 refine Bt [0,1,2,3,5,6,7,8] [(4,[9,10,11,12,13,14])] Q9W ?_
 repeat' (refine Ba ?_;first|refine Q5P ?_|fail)
 refine Ba ?_
 refine Bw [3,7] _ Q9W Q8k λv ms hR=>?_
 rcases hR with ⟨hE0,rfl,rfl⟩|⟨ce,hpos,hce,rfl,rfl⟩
 .exact Q3q
 refine⟨by simp,?_⟩
 repeat' (refine Ba ?_;first|refine Q5P ?_|fail)
 refine Ba ?_
 refine Bb Q8Y ?_
 repeat' (refine Ba ?_;first|refine Q5P ?_|refine Bg (nf hk) ?_|fail)
 refine Ba ?_
 exact jll (ChunkLe.refl _) rfl rfl rfl rfl rfl
theorem jdu(hE:0<T.E.length/\T.E.length<=64)(hk:(je3 D T).2=true)(hid:(je3 D T).1=D.id){h:Hp}{cm:Chunk}(O:On7 D T now fine n l S cap i0 i1 i2 i3 i4 i5 i6 K h cf cm):
  qae prog 42 [xd i1,xd i0] h (.tuple #[]) (m7 (D.ta (je3 D T).1 D.asked D.seq D.S) T now fine n l S cap i0 i1 i2 i3 i4 i5 i6) [i2,i5]:=by
 refine jhz O _ func42 Q9S (call42) ?_
 repeat' (refine Ba ?_;first|refine Q5S ?_|refine Q5U ?_|fail)
 refine Ba ?_
 refine Bv ?_
 refine Ba ?_
 refine Bt [0,1,2,3,5,6,7,8] [(4,[9,10,11,12,13,14])] Q9W ?_
 repeat' (refine Ba ?_;first|refine Q5P ?_|fail)
 refine Ba ?_
 refine Bw [3,7] _ Q9W Q8k λv ms hR=>?_
 rcases hR with ⟨hE0,rfl,rfl⟩|⟨ce,hpos,hce,rfl,rfl⟩
 .exact Q3q
 refine⟨by simp,?_⟩
 repeat' (refine Ba ?_;first|refine Q5P ?_|fail)
 refine Ba ?_
 refine Bb Q8Y ?_
 repeat' (refine Ba ?_;first|refine Q5P ?_|refine Bf (nt hk) ?_|fail)
 refine Ba ?_
 refine Bb (jj7 T _ 3 _ Q9S) ?_
 repeat' (refine Ba ?_;first|refine Q5P ?_|refine Bf (ni hid) ?_|fail)
 refine Ba ?_
 exact jll Q9u rfl rfl rfl rfl rfl
theorem jdv(hE:0<T.E.length/\T.E.length<=64)(hk:(je3 D T).2=true)(hid:¬ (je3 D T).1=D.id)(hw:¬ (T.get (je3 D T).1).when_<=now){h:Hp}{cm:Chunk}(O:On7 D T now fine n l S cap i0 i1 i2 i3 i4 i5 i6 K h cf cm):
  qae prog 42 [xd i1,xd i0] h (.tuple #[]) (m7 (D.ta (je3 D T).1 D.asked D.seq D.S) T now fine n l S cap i0 i1 i2 i3 i4 i5 i6) [i2,i5]:=by
 refine jhz O _ func42 Q9S (call42) ?_
 repeat' (refine Ba ?_;first|refine Q5S ?_|refine Q5U ?_|fail)
 refine Ba ?_
 refine Bv ?_
 refine Ba ?_
 refine Bt [0,1,2,3,5,6,7,8] [(4,[9,10,11,12,13,14])] Q9W ?_
 repeat' (refine Ba ?_;first|refine Q5P ?_|fail)
 refine Ba ?_
 refine Bw [3,7] _ Q9W Q8k λv ms hR=>?_
 rcases hR with ⟨hE0,rfl,rfl⟩|⟨ce,hpos,hce,rfl,rfl⟩
 .exact Q3q
 refine⟨by simp,?_⟩
 repeat' (refine Ba ?_;first|refine Q5P ?_|fail)
 refine Ba ?_
 refine Bb Q8Y ?_
 repeat' (refine Ba ?_;first|refine Q5P ?_|refine Bf (nt hk) ?_|fail)
 refine Ba ?_
 refine Bb (jj7 T _ 3 _ Q9S) ?_
 repeat' (refine Ba ?_;first|refine Q5P ?_|refine Bg (jpw hid) ?_|refine Bf (by rw[xm];exact hw) ?_|fail)
 refine Ba ?_
 exact jll Q9u rfl rfl rfl rfl rfl
theorem jdw(hE:0<T.E.length/\T.E.length<=64)(hk:(je3 D T).2=true)(hid:¬ (je3 D T).1=D.id)(hw:(T.get (je3 D T).1).when_<=now)(hl0:l=0){h:Hp}{cm:Chunk}(O:On7 D T now fine n l S cap i0 i1 i2 i3 i4 i5 i6 K h cf cm):
  qae prog 42 [xd i1,xd i0] h (.tuple #[]) (m7 (D.ta (je3 D T).1 D.asked D.seq D.S) T now fine n l S cap i0 i1 i2 i3 i4 i5 i6) [i2,i5]:=by
 refine jhz O _ func42 Q9S (call42) ?_
 repeat' (refine Ba ?_;first|refine Q5S ?_|refine Q5U ?_|fail)
 refine Ba ?_
 refine Bv ?_
 refine Ba ?_
 refine Bt [0,1,2,3,5,6,7,8] [(4,[9,10,11,12,13,14])] Q9W ?_
 repeat' (refine Ba ?_;first|refine Q5P ?_|fail)
 refine Ba ?_
 refine Bw [3,7] _ Q9W Q8k λv ms hR=>?_
 rcases hR with ⟨hE0,rfl,rfl⟩|⟨ce,hpos,hce,rfl,rfl⟩
 .exact Q3q
 refine⟨by simp,?_⟩
 repeat' (refine Ba ?_;first|refine Q5P ?_|fail)
 refine Ba ?_
 refine Bb Q8Y ?_
 repeat' (refine Ba ?_;first|refine Q5P ?_|refine Bf (nt hk) ?_|fail)
 refine Ba ?_
 refine Bb (jj7 T _ 3 _ Q9S) ?_
 repeat' (refine Ba ?_;first|refine Q5P ?_|refine Bg (jpw hid) ?_|refine Bg (by rw[xh];exact hw) ?_|fail)
 refine Ba ?_
 refine Bh (qks 1 (ndC (D.ta (je3 D T).1 D.asked D.seq D.S) 2 3 4 5) Q9S Q9u (λv ms hR=>by obtain⟨rfl,rfl⟩:=hR;rfl) (qc1 (quv (D.ta (je3 D T).1 D.asked D.seq D.S) now fine (.slice (some ⟨6,0,some 0⟩) S.length cap) n l 6 0 0 0 0 0 0 0 (je3 D T).1 (T.get (je3 D T).1).when_ (T.get (je3 D T).1).x (T.get (je3 D T).1).y (T.get (je3 D T).1).a (T.get (je3 D T).1).b (T.get (je3 D T).1).d hl0 0 1 2 3 4 5 _ _ _ _ Q9S Q9S Q9S Q9S Q9S Q9S Q9V))) λv ms hR=>?_
 obtain⟨rfl,rfl⟩:=hR
 repeat' (refine Ba ?_;first|refine Q5P ?_|refine Q66 ?_|fail)
 refine Ba ?_
 exact jll (ChunkLe.refl _) rfl rfl rfl rfl rfl
theorem jdx(hE:0<T.E.length/\T.E.length<=64)(hS:S.length<=cap/\S.length<=1000)(hk:(je3 D T).2=true)(hid:¬ (je3 D T).1=D.id)(hw:(T.get (je3 D T).1).when_<=now)(hl:0<l/\l<1000)(hs:0<=D.seq/\D.seq<65535)(hb:0<=D.boot/\D.boot<=65535){h:Hp}{cm:Chunk}(O:On7 D T now fine n l S cap i0 i1 i2 i3 i4 i5 i6 K h cf cm):
  CallAll prog 42 [xd i1,xd i0] h (jj8 (D.ta (je3 D T).1 D.asked (D.seq+1) D.S) T now fine n l S (⟨(jpv (je3 D T).1 (T.get (je3 D T).1)).by (D.ta (je3 D T).1 D.asked D.seq D.S) now,fine⟩) cap i0 i1 i2 i3 i4 i5 i6 K):=by
 refine jqw O _ _ 10 func42 Q9S (call42) ?_
 repeat' (refine Ba ?_;first|refine Q5S ?_|refine Q5U ?_|fail)
 refine Ba ?_
 refine Bv ?_
 refine Ba ?_
 refine Bt [0,1,2,3,5,6,7,8] [(4,[9,10,11,12,13,14])] Q9W ?_
 repeat' (refine Ba ?_;first|refine Q5P ?_|fail)
 refine Ba ?_
 refine Bw [3,7] _ Q9W Q8k λv ms hR=>?_
 rcases hR with ⟨hE0,rfl,rfl⟩|⟨ce,hpos,hce,rfl,rfl⟩
 .exact Q3q
 refine⟨by simp,?_⟩
 repeat' (refine Ba ?_;first|refine Q5P ?_|fail)
 refine Ba ?_
 refine Bb Q8Y ?_
 repeat' (refine Ba ?_;first|refine Q5P ?_|refine Bf (nt hk) ?_|fail)
 refine Ba ?_
 refine Bb (jj7 T _ 3 _ Q9S) ?_
 repeat' (refine Ba ?_;first|refine Q5P ?_|refine Bg (jpw hid) ?_|refine Bg (by rw[xh];exact hw) ?_|fail)
 refine Ba ?_
 refine Bh (qks 1 (ndC (D.ta (je3 D T).1 D.asked D.seq D.S) 2 3 4 5) Q9S Q9u Q9P (q6n (D.ta (je3 D T).1 D.asked D.seq D.S) (jpv (je3 D T).1 (T.get (je3 D T).1)) now fine n l S cap hS hl hs hb 0 1 2 3 4 5 6 10 _ _ _ _ Q9S Q9S Q9S Q9S Q9S Q9S Q9S Q9S Q9V)) λv ms hR=>?_
 obtain⟨rfl,⟨hκ,rfl⟩|⟨κ,hκ,rfl⟩⟩:=hR
 .refine Q01 ?_;exact jqx hκ (ChunkLe.refl _) rfl rfl rfl rfl rfl
 .refine Q01 ?_;exact jqy hκ (ChunkLe.refl _) rfl rfl rfl rfl rfl rfl Q9V
open Go Go.RowKit Sx
theorem qg5{c:Nat}:ChunkReLe ix (ouR S c) (ouR S c):=⟨id,nlr _,qeh⟩
theorem qg6:ChunkReLe ix noC noC:=⟨id,nlr _,nzj⟩
theorem q6s(a:Int):∀(l:List Int)(s:NxS)(L:List Int),(s.any=true->s.least∈L)->(s.behind=true->s.next∈L)->((l.foldl (NxS.step a) s).any=true->(l.foldl (NxS.step a) s).least∈L++l)/\((l.foldl (NxS.step a) s).behind=true->(l.foldl (NxS.step a) s).next∈L++l)/\(l≠[]\/s.any=true->(l.foldl (NxS.step a) s).any=true)
 | [],s,L,h1,h2=>by simp only[List.foldl_nil,zv];exact⟨h1,h2,λh=>by simpa using h⟩
 | x::l,s,L,h1,h2=>by
  have key:((NxS.step a s x).any=true->(NxS.step a s x).least∈L++[x])/\((NxS.step a s x).behind=true->(NxS.step a s x).next∈L++[x])/\(NxS.step a s x).any=true:=by
   obtain⟨le,ne,an,be⟩:=s;simp only at h1 h2;unfold NxS.step;dsimp only;cases an<;>cases be<;>simp only[xG,reduceCtorEq,true_or,if_true,false_or,forall_const,false_implies,Bool.true_eq_false,and_true] at h1 h2 ⊢<;>(repeat' split)<;>simp_all
  obtain⟨k1,k2,k3⟩:=key;obtain⟨r1,r2,r3⟩:=q6s a l (NxS.step a s x) (L++[x]) k1 k2;rw[List.foldl_cons];rw[List.append_assoc] at r1 r2;exact⟨r1,r2,λ_=>r3 (.inr k3)⟩
theorem qo0{a:Int}{l:List Int}(h:l≠[]):(jgc a l).2=true/\(jgc a l).1∈l:=by
 obtain⟨r1,r2,r3⟩:=q6s a l ⟨0,0,false,false⟩ [] (λh=>by cases h) (λh=>by cases h);have r3:=r3 (.inl h);unfold jgc;split
 .rename_i hb;exact⟨rfl,r2 hb⟩
 .exact⟨r3,r1 r3⟩
theorem qvh{E:Ez}{p:Ent->Bool}{x:Int}:∀{r:Nat},x∈evL E p r->∃i,i<r/\x=(entT E i).node
 | 0,h=>by cases h
 | r+1,h=>by
  unfold evL at h;split at h
  .rcases yM.1 h with h|h
   .obtain⟨i,hi,e⟩:=qvh h;exact⟨i,by omega,e⟩
   .exact⟨r,by omega,by simpa using h⟩
  .obtain⟨i,hi,e⟩:=qvh h;exact⟨i,by omega,e⟩
theorem ql7(E:Ez):∀r,(evL E (λ_=>true) r).length=r
 | 0=>rfl
 | r+1=>by unfold evL;rw[if_pos rfl,xv,ql7 E r];rfl
def TIn(T:Tbl):Prop:=∀i,i<T.E.length->0<=(entT T.E i).node/\(entT T.E i).node<64
def jfg(D:NdS)(T:Tbl):Int:=(jgc D.asked (jj5 T.E λ_=>true)).1
theorem qo1(hT:TIn T)(hE:0<T.E.length):(jgc D.asked (jj5 T.E λ_=>true)).2=true/\0<=jfg D T/\jfg D T<64:=by
 have h0:jj5 T.E (λ_=>true)≠[]:=λe=>Q4w
 obtain⟨h1,h2⟩:=qo0 (a:=D.asked) h0;obtain⟨i,hi,e⟩:=qvh h2;have:=hT i hi;rw[<-e] at this;exact⟨h1,this⟩
def jlm(k:Int):Frm:=⟨2,0,0,0,0,k,0,0,0,0,0,0,0,0,0⟩
@[reducible] def plSet(E:Ez)(p:Ent->Bool):EvS->Vz
 | .no r=>[(17,.int .i64 (r:Int)),(4,.slice none 0 0)]
 | .yes r c=>[(17,.int .i64 (r:Int)),(4,.slice (some ⟨8,0,some 0⟩) (evL E p r).length c)]
@[reducible] def plHs(E:Ez)(p:Ent->Bool):EvS->Mz
 | .no r=>[]
 | .yes r c=>[(8,rl (evL E p r) c)]
theorem jdy(hE:0<T.E.length/\T.E.length<=64)(hT:TIn T)(m:Nat)(hm:jfg D T=(m:Int))(hm64:m<64)(hl0:l=0){h:Hp}{cm:Chunk}(O:On7 D T now fine n l S cap i0 i1 i2 i3 i4 i5 i6 K h cf cm):
  qae prog 43 [xd i1,xd i0] h (.tuple #[]) (m7 (D.ta D.told (jfg D T) D.seq D.S) T now fine n l S cap i0 i1 i2 i3 i4 i5 i6) [i2,i5]:=by
 refine jhz O _ func43 Q9S (call43) ?_
 refine Ba ?_
 refine Bh (jkz T hE.2 3 7 _ Q9S Q9S) λv ms hR=>?_
 rcases hR with ⟨hE0,rfl,rfl⟩|⟨ce,hpos,hce,rfl,rfl⟩
 .exact Q3q
 obtain⟨hk,hk0⟩:=qo1 (D:=D) hT hE.1
 unfold jfg at hm
 have hEE:0<T.E.length/\T.E.length<=64:=hE
 repeat' (refine Ba ?_;first|refine Q5P ?_|fail)
 refine Ba ?_
 refine Bq (α:=EvS) (jpo T.E λ_=>true) (λs=>T.E.length-s.r) (plSet T.E λ_=>true) (plHs T.E λ_=>true) (.no 0) [(0,0),(1,1),(2,2),(3,3),(4,4),(5,5),(6,6),(7,7)] ⟨xi _,rfl⟩ ?_ ?_
 .exact Q1B
 intro s hs
 have hr:s.r<=T.E.length:=by cases s<;>exact hs.1
 by_cases hlt:s.r<T.E.length
 .exact Q12
 obtain⟨r,c,rfl⟩:∃r c,s=EvS.yes r c:=Q3n
 obtain⟨r1,r2,r3⟩:=hs
 have hlt:¬ r<T.E.length:=hlt
 obtain rfl:r=T.E.length:=by omega
 refine Ba ?_
 refine Bf Qar ?_
 repeat' (refine Ba ?_;first|refine Q5P ?_|fail)
 refine Ba ?_
 refine Bb Q8W ?_
 repeat' (refine Ba ?_;first|refine Q5P ?_|refine Bf QaO ?_|fail)
 refine Ba ?_
 refine Bh (qks 1 (ndC (D.ta D.told (jfg D T) D.seq D.S) 2 3 4 5) Q9S (qvg D (jfg D T) 2 3 4 5 rfl) (λv ms hR=>by obtain⟨rfl,rfl⟩:=hR;rfl) (qc1 (quv (D.ta D.told (jfg D T) D.seq D.S) now fine (.slice (some ⟨6,0,some 0⟩) S.length cap) n l 2 0 0 0 0 (jfg D T) 0 0 0 0 0 0 0 0 0 hl0 0 1 2 3 4 5 _ _ _ _ Q9S Q9S Q9S Q9S Q9S Q9S Q9V))) λv ms hR=>?_
 obtain⟨rfl,rfl⟩:=hR
 repeat' (refine Ba ?_;first|refine Q5P ?_|refine Q66 ?_|fail)
 refine Ba ?_
 exact jll (ChunkLe.refl _) rfl rfl rfl rfl rfl
theorem jdz(hE:0<T.E.length/\T.E.length<=64)(hS:S.length<=cap/\S.length<=1000)(hT:TIn T)(m:Nat)(hm:jfg D T=(m:Int))(hm64:m<64)(hl:0<l/\l<1000)(hs:0<=D.seq/\D.seq<65535)(hb:0<=D.boot/\D.boot<=65535){h:Hp}{cm:Chunk}(O:On7 D T now fine n l S cap i0 i1 i2 i3 i4 i5 i6 K h cf cm):
  CallAll prog 43 [xd i1,xd i0] h (jj8 (D.ta D.told (jfg D T) (D.seq+1) (upd D.S m ((D.S m).poll fine (D.boot*65536+D.seq)))) T now fine n l S (⟨(jlm (jfg D T)).by (D.ta D.told (jfg D T) D.seq D.S) now,fine⟩) cap i0 i1 i2 i3 i4 i5 i6 K):=by
 refine jqw O _ _ 10 func43 Q9S (call43) ?_
 refine Ba ?_
 refine Bh (jkz T hE.2 3 7 _ Q9S Q9S) λv ms hR=>?_
 rcases hR with ⟨hE0,rfl,rfl⟩|⟨ce,hpos,hce,rfl,rfl⟩
 .exact Q3q
 obtain⟨hk,hk0⟩:=qo1 (D:=D) hT hE.1
 unfold jfg at hm
 have hEE:0<T.E.length/\T.E.length<=64:=hE
 repeat' (refine Ba ?_;first|refine Q5P ?_|fail)
 refine Ba ?_
 refine Bq (α:=EvS) (jpo T.E λ_=>true) (λs=>T.E.length-s.r) (plSet T.E λ_=>true) (plHs T.E λ_=>true) (.no 0) [(0,0),(1,1),(2,2),(3,3),(4,4),(5,5),(6,6),(7,7)] ⟨xi _,rfl⟩ ?_ ?_
 .exact Q1B
 intro s hs
 have hr:s.r<=T.E.length:=by cases s<;>exact hs.1
 by_cases hlt:s.r<T.E.length
 .exact Q12
 obtain⟨r,c,rfl⟩:∃r c,s=EvS.yes r c:=Q3n
 obtain⟨r1,r2,r3⟩:=hs
 have hlt:¬ r<T.E.length:=hlt
 obtain rfl:r=T.E.length:=by omega
 refine Ba ?_
 refine Bf Qar ?_
 repeat' (refine Ba ?_;first|refine Q5P ?_|fail)
 refine Ba ?_
 refine Bb Q8W ?_
 repeat' (refine Ba ?_;first|refine Q5P ?_|refine Bf QaO ?_|fail)
 refine Ba ?_
 refine Bh (qks 1 (ndC (D.ta D.told (jfg D T) D.seq D.S) 2 3 4 5) Q9S (qvg D (jfg D T) 2 3 4 5 rfl) Q9P (q6n (D.ta D.told (jfg D T) D.seq D.S) (jlm (jfg D T)) now fine n l S cap hS hl hs hb 0 1 2 3 4 5 6 10 _ _ _ _ Q9S Q9S Q9S Q9S Q9S Q9S Q9S Q9S Q9V)) λv ms hR=>?_
 obtain⟨rfl,⟨hκ,rfl⟩|⟨κ,hκ,rfl⟩⟩:=hR
 .refine Q1v ?_;refine Bw [1,11] _ Q9W Q98 λv ms hR=>?_
  obtain⟨rfl,rfl⟩:=hR;refine⟨by simp,?_⟩;repeat' (refine Ba ?_;first|refine Q5P ?_|fail)
  refine Ba ?_;exact jqx hκ (ChunkLe.refl _) rfl rfl rfl rfl rfl
 .refine Q1v ?_;refine Bw [1,11] _ Q9W Q98 λv ms hR=>?_
  obtain⟨rfl,rfl⟩:=hR;refine⟨by simp,?_⟩;repeat' (refine Ba ?_;first|refine Q5P ?_|fail)
  refine Ba ?_;exact jqy hκ (ChunkLe.refl _) rfl rfl rfl rfl rfl rfl Q9V
structure TlS where
 D:NdS
 l:Int
 o:Option Ou
def tellP(D:NdS)(l:Int)(T:Tbl)(now fine:Int):TlS:=
 if T.E=[] then ⟨D,l,none⟩
 else if (je3 D T).2=false then ⟨D,l,none⟩
 else if (je3 D T).1=D.id\/¬ (T.get (je3 D T).1).when_<=now then ⟨D.ta (je3 D T).1 D.asked D.seq D.S,l,none⟩
 else if l=0 then ⟨D.ta (je3 D T).1 D.asked D.seq D.S,l,none⟩
 else ⟨D.ta (je3 D T).1 D.asked (D.seq+1) D.S,l-1,some ⟨(jpv (je3 D T).1 (T.get (je3 D T).1)).by (D.ta (je3 D T).1 D.asked D.seq D.S) now,fine⟩⟩
def askP(D:NdS)(l:Int)(T:Tbl)(now fine:Int):TlS:=
 if T.E=[] then ⟨D,l,none⟩
 else if l=0 then ⟨D.ta D.told (jfg D T) D.seq D.S,l,none⟩
 else ⟨D.ta D.told (jfg D T) (D.seq+1) (upd D.S (jfg D T).toNat ((D.S (jfg D T).toNat).poll fine (D.boot*65536+D.seq))),l-1,some ⟨(jlm (jfg D T)).by (D.ta D.told (jfg D T) D.seq D.S) now,fine⟩⟩
def jnl(r:TlS)(T:Tbl)(now fine n:Int)(S:List Ou)(cap:Nat)(i0 i1 i2 i3 i4 i5 i6 K:Nat)(v:Value)(ms:Mz):Prop:=
 v=.tuple #[]/\match r.o with
 | none=>ms=[(i0,sdC i1 now fine (.slice (some ⟨i6,0,some 0⟩) S.length cap)),(i1,ndC r.D i2 i3 i4 i5),(i3,tblC T),(i4,twC n r.l),(i6,ouR S cap)]
 | some x=>(S.length<cap/\ms=[(i0,sdC i1 now fine (.slice (some ⟨i6,0,some 0⟩) (S.length+1) cap)),(i1,ndC r.D i2 i3 i4 i5),(i3,tblC T),(i4,twC n r.l),(i6,ouR (S++[x]) cap)])\/
  ∃κ:Nat,S.length+1<=κ/\ms=[(i0,sdC i1 now fine (.slice (some ⟨K,0,some 0⟩) (S.length+1) κ)),(i1,ndC r.D i2 i3 i4 i5),(i3,tblC T),(i4,twC n r.l),(i6,ouR S cap),(K,ouR (S++[x]) κ)]
theorem q91(hE0:T.E=[]){h:Hp}{cm:Chunk}(O:On7 D T now fine n l S cap i0 i1 i2 i3 i4 i5 i6 K h cf cm):
  qae prog 42 [xd i1,xd i0] h (.tuple #[]) (m7 (D) T now fine n l S cap i0 i1 i2 i3 i4 i5 i6) [i2,i5]:=by
 refine jhz O _ func42 Q9S (call42) ?_
 repeat' (refine Ba ?_;first|refine Q5P ?_|refine Bb (jjz T hE0 3 _ Q9S) ?_|refine Bb (qzx _ _) ?_|refine Q6c ?_|fail)
 refine Ba ?_
 exact jll (ChunkLe.refl _) rfl rfl rfl rfl rfl
theorem q92(hE0:T.E=[]){h:Hp}{cm:Chunk}(O:On7 D T now fine n l S cap i0 i1 i2 i3 i4 i5 i6 K h cf cm):
  qae prog 43 [xd i1,xd i0] h (.tuple #[]) (m7 (D) T now fine n l S cap i0 i1 i2 i3 i4 i5 i6) [i2,i5]:=by
 refine jhz O _ func43 Q9S (call43) ?_
 repeat' (refine Ba ?_;first|refine Q5P ?_|refine Bp 1 ?_|refine Bb (jjz T hE0 3 _ Q9S) ?_|refine Bb (qol _ _) ?_|refine Q66 ?_|refine Q6c ?_|fail)
 refine Ba ?_
 exact jll (ChunkLe.refl _) rfl rfl rfl rfl rfl
variable{rh:List Nat}
theorem rowN{r r':TlS}{h:Hp}{g:FuncId}(e:r'=r)(ho:r.o=none)(hc:qae prog g vs h (.tuple #[]) [(i0,sdC i1 now fine (.slice (some ⟨i6,0,some 0⟩) S.length cap)),(i1,ndC r.D i2 i3 i4 i5),(i3,tblC T),(i4,twC n r.l),(i6,ouR S cap)] rh):CallAll prog g vs h (jnl r' T now fine n S cap i0 i1 i2 i3 i4 i5 i6 K):=Q51
theorem jqz{D':NdS}{x:Ou}{r':TlS}{h:Hp}{g:FuncId}(e:r'=⟨D',l-1,some x⟩)(hc:CallAll prog g vs h (jj8 D' T now fine n l S x cap i0 i1 i2 i3 i4 i5 i6 K)):CallAll prog g vs h (jnl r' T now fine n S cap i0 i1 i2 i3 i4 i5 i6 K):=by
 subst e;exact hc
theorem qvi(hE:T.E.length<=64)(hS:S.length<=cap/\S.length<=1000)(hl:0<=l/\l<1000)(hs:0<=D.seq/\D.seq<65535)(hb:0<=D.boot/\D.boot<=65535){h:Hp}{cm:Chunk}(O:On7 D T now fine n l S cap i0 i1 i2 i3 i4 i5 i6 K h cf cm):
  CallAll prog 42 [xd i1,xd i0] h (jnl (tellP D l T now fine) T now fine n S cap i0 i1 i2 i3 i4 i5 i6 K):=by
 by_cases h0':T.E=[]
 .refine rowN (r:=⟨D,l,none⟩) ?_ rfl (q91 h0' O);unfold tellP;rw[if_pos h0']
 have hE2:0<T.E.length/\T.E.length<=64:=⟨List.length_pos_iff.2 h0',hE⟩
 by_cases hk:(je3 D T).2=false
 .refine rowN (r:=⟨D,l,none⟩) ?_ rfl (jdt hE2 hk O);unfold tellP;rw[if_neg h0',if_pos hk]
 have hk:(je3 D T).2=true:=by simpa using hk
 by_cases hid:(je3 D T).1=D.id
 .refine rowN (r:=⟨D.ta (je3 D T).1 D.asked D.seq D.S,l,none⟩) ?_ rfl (jdu hE2 hk hid O);unfold tellP;rw[if_neg h0',if_neg QaU,if_pos (.inl hid)]
 by_cases hw:(T.get (je3 D T).1).when_<=now
 rotate_left
 .refine rowN (r:=⟨D.ta (je3 D T).1 D.asked D.seq D.S,l,none⟩) ?_ rfl (jdv hE2 hk hid hw O);unfold tellP;rw[if_neg h0',if_neg QaU,if_pos (.inr hw)]
 have hno:¬ ((je3 D T).1=D.id\/¬ (T.get (je3 D T).1).when_<=now):=λh=>h.elim hid λh=>h hw
 by_cases hl0:l=0
 .refine rowN (r:=⟨D.ta (je3 D T).1 D.asked D.seq D.S,l,none⟩) ?_ rfl (jdw hE2 hk hid hw hl0 O);unfold tellP;rw[if_neg h0',if_neg QaU,if_neg hno,if_pos hl0]
 .refine jqz ?_ (jdx hE2 hS hk hid hw Q9R hs hb O);unfold tellP;rw[if_neg h0',if_neg QaU,if_neg hno,if_neg hl0]
theorem jij(hE:T.E.length<=64)(hS:S.length<=cap/\S.length<=1000)(hl:0<=l/\l<1000)(hs:0<=D.seq/\D.seq<65535)(hb:0<=D.boot/\D.boot<=65535)(hT:TIn T){h:Hp}{cm:Chunk}(O:On7 D T now fine n l S cap i0 i1 i2 i3 i4 i5 i6 K h cf cm):
  CallAll prog 43 [xd i1,xd i0] h (jnl (askP D l T now fine) T now fine n S cap i0 i1 i2 i3 i4 i5 i6 K):=by
 by_cases h0':T.E=[]
 .refine rowN (r:=⟨D,l,none⟩) ?_ rfl (q92 h0' O);unfold askP;rw[if_pos h0']
 have hE2:0<T.E.length/\T.E.length<=64:=⟨List.length_pos_iff.2 h0',hE⟩
 obtain⟨hk,hk1,hk2⟩:=qo1 (D:=D) hT hE2.1
 have hm:jfg D T=((jfg D T).toNat:Int):=by omega
 by_cases hl0:l=0
 .refine rowN (r:=⟨D.ta D.told (jfg D T) D.seq D.S,l,none⟩) ?_ rfl (jdy hE2 hT _ hm Q9R hl0 O);unfold askP;rw[if_neg h0',if_pos hl0]
 .refine jqz ?_ (jdz hE2 hS hT _ hm Q9R Q9R hs hb O);unfold askP;rw[if_neg h0',if_neg hl0]
open Go Go.RowKit Sx
def qbv(D:NdS)(l:Int)(F:Flr)(T:Tbl)(m:Nat)(f:Frm)(at_ now fine:Int):HrS:=
 if f.k=2 then jii D l F T m f at_ now fine else if f.k=3 then jhy D l F T m f at_ now fine else qrm D l F T m f at_ now
def Tbl.leave(T:Tbl)(n:Int):Tbl:=match T.lives n with
 | some l=>⟨T.most,jfw T.E n,jfl T.lives n ⟨l.boot,true,l.W⟩⟩
 | none=>T
def NdS.no(D:NdS)(l:Int)(F:Flr)(T:Tbl):HrS:=⟨D.S,D.seq,l,F,T,none⟩
def jgo(D:NdS)(l:Int)(F:Flr)(T:Tbl)(m:Nat)(f:Frm)(at_ now fine:Int):HrS:=
 if f.k=5 then D.no l F (ji4 D.C T f.s f.el f.st now)
 else if f.k=6 then D.no l (qb6 D F T f now).1 (qb6 D F T f now).2
 else if f.k=2\/f.k=3\/f.k=4 then (if f.ds=D.id then qbv D l F T m f at_ now fine else D.no l F T)
 else if f.k=7 then D.no l F (T.leave f.s)
 else D.no l F T
theorem qvj{s:Ses}{t m:Int}:s.resp t m=if s.b.ansP t then ⟨s.a,⟨2,s.b.fr,t,m,s.b.sp⟩⟩ else s:=rfl
theorem hrN{r r':HrS}{h:Hp}{g:FuncId}(e:r=r')(ho:r.o=none)(hc:qae prog g vs h (.tuple #[]) [(i0,sdC i1 now fine (.slice none 0 0)),(i1,ndC (D.to r) i2 i3 i4 i5),(i2,fiF r.F),(i3,tblC r.T),(i4,twC n r.l)] rh):CallAll prog g vs h (hrR D now fine n r' i0 i1 i2 i3 i4 i5 K):=Q51
theorem hrY{r r':HrS}{x:Ou}{h:Hp}{g:FuncId}(e:r'=⟨r.S,r.seq,r.l,r.F,r.T,some x⟩)(hc:CallAll prog g vs h λv ms=>∃κ:Nat,1<=κ/\v=.tuple #[]/\ms=[(i0,sdC i1 now fine (.slice (some ⟨K,0,some 0⟩) 1 κ)),(i1,ndC (D.to r) i2 i3 i4 i5),(i2,fiF r.F),(i3,tblC r.T),(i4,twC n r.l),(K,ouR [x] κ)]):CallAll prog g vs h (hrR D now fine n r' i0 i1 i2 i3 i4 i5 K):=by
 subst e;refine qav hc λv ms hR=>?_
 obtain⟨κ,hκ,rfl,rfl⟩:=hR;exact⟨rfl,κ,hκ,rfl⟩
theorem qhp{f:Frm}{at_:Int}(B:Rg D F f m l)(hk:f.k=2\/f.k=3\/f.k=4){h:Hp}{cm:Chunk}(O:On6 D F T now fine n l i0 i1 i2 i3 i4 i5 K h cm):
  CallAll prog 87 (hdA f at_ i0 i1) h (hrR D now fine n (qbv D l F T m f at_ now fine) i0 i1 i2 i3 i4 i5 K):=by
 unfold qbv
 by_cases q2:f.k=2
 .rw[if_pos q2];by_cases hl0:l=0
  .refine hrN ?_ rfl (q4x B q2 hl0 O);unfold jii;rw[if_pos hl0]
  .by_cases ha:((upd D.S m ((D.S m).gotPoll at_ f.st)) m).b.ansP fine
   .refine hrY ?_ (q4y B q2 hl0 ha O);unfold jii;rw[if_neg hl0,qvj,if_pos ha]
   .refine hrY ?_ (q4z B q2 hl0 ha O);unfold jii;rw[if_neg hl0,qvj,if_neg ha]
 .rw[if_neg q2];by_cases q3:f.k=3
  .rw[if_pos q3];by_cases hg:(D.S m).gotRespP at_ f.t1
   .have e1:(D.S m).gotResp at_ f.t1=⟨⟨2,(D.S m).a.fr,at_,(D.S m).a.mr,(D.S m).a.sp⟩,(D.S m).b⟩:=by
     unfold Ses.gotResp Half.ans;rw[if_pos hg,if_pos hg.2]
    have e2:jhy D l F T m f at_ now fine=jhy D l F T m f at_ now fine:=rfl
    conv at e2=>rhs;unfold jhy;rw[if_pos hg,e1]
    rw[e2];by_cases he:(upd D.S m (⟨⟨2,(D.S m).a.fr,at_,(D.S m).a.mr,(D.S m).a.sp⟩,(D.S m).b⟩:Ses) m).a.endP fine
    .have e3:(upd D.S m (⟨⟨2,(D.S m).a.fr,at_,(D.S m).a.mr,(D.S m).a.sp⟩,(D.S m).b⟩:Ses) m).final fine=⟨Half.o,(upd D.S m (⟨⟨2,(D.S m).a.fr,at_,(D.S m).a.mr,(D.S m).a.sp⟩,(D.S m).b⟩:Ses) m).b⟩:=by
      unfold Ses.final;rw[if_pos he]
     rw[if_pos he,e3];by_cases hl0:l=0
     .rw[if_pos hl0];exact hrN rfl rfl (q42 B q3 hg he hl0 O)
     .rw[if_neg hl0];exact hrY rfl (q43 B q3 hg he hl0 O)
    .rw[if_neg he];exact hrN rfl rfl (q41 B q3 hg he O)
   .refine hrN ?_ rfl (q40 B q3 hg O);unfold jhy;rw[if_neg hg]
  .rw[if_neg q3];have q4:f.k=4:=by omega
   by_cases hg:(D.S m).gotFinalP at_ f.wn
   .refine hrN ?_ rfl (q90 B q4 hg O);have e1:(D.S m).gotFinal at_ f.wn=⟨(D.S m).a,Half.o⟩:=by unfold Ses.gotFinal;rw[if_pos hg]
    unfold qrm;rw[if_pos hg,e1]
   .refine hrN ?_ rfl (q9z B q4 hg O);unfold qrm;rw[if_neg hg]
theorem jd0{f:Frm}{at_:Int}(B:Rg D F f m l)(hk:f.k=5){h:Hp}{cm:Chunk}(O:On6 D F T now fine n l i0 i1 i2 i3 i4 i5 K h cm):
  qae prog 49 (hdA f at_ i0 i1) h (.tuple #[]) (m6 D now fine n i0 i1 i2 i3 i4 i5 (D.no l F (ji4 D.C T f.s f.el f.st now))) [i5]:=by
 obtain⟨hm,hm64,hfr,hl,hs,hb,hF,hC⟩:=B
 refine jfy O _ (hdA f at_ 0 1) func49 Q9S (call49) Q8e ?_
 repeat' (refine Ba ?_;first|refine Q5P ?_|refine Bg (ei hk) ?_|refine Bb (q6l D T _ _ f.s f.el f.st now Q9R 1 2 3 (q0w _ _ _ _ _) _ Q9S Q9S Q9S Q9V) ?_|fail)
 refine Ba ?_
 exact jhp rfl rfl rfl rfl rfl
theorem jd1{f:Frm}{at_:Int}(B:Rg D F f m l)(hk:f.k=6)(hw:0<=f.wh/\f.wh<64){h:Hp}{cm:Chunk}(O:On6 D F T now fine n l i0 i1 i2 i3 i4 i5 K h cm):
  qae prog 49 (hdA f at_ i0 i1) h (.tuple #[]) (m6 D now fine n i0 i1 i2 i3 i4 i5 (D.no l (qb6 D F T f now).1 (qb6 D F T f now).2)) [i5]:=by
 obtain⟨hm,hm64,hfr,hl,hs,hb,hF,hC⟩:=B
 refine jfy O _ (hdA f at_ 0 1) func49 Q9S (call49) Q8e ?_
 repeat' (refine Ba ?_;first|refine Q5P ?_|refine Q6h ?_|refine Bb (qwt D F T _ _ f at_ now fine hF hw 0 1 2 3 (jdo _ _ _ _) (q0w _ _ _ _ _) _ Q9S Q9S Q9S Q9S Q9V) ?_|fail)
 refine Ba ?_
 exact jhp rfl rfl rfl rfl rfl
theorem jd2{f:Frm}{at_:Int}(B:Rg D F f m l)(hk:f.k=1){h:Hp}{cm:Chunk}(O:On6 D F T now fine n l i0 i1 i2 i3 i4 i5 K h cm):
  qae prog 49 (hdA f at_ i0 i1) h (.tuple #[]) (m6 D now fine n i0 i1 i2 i3 i4 i5 (D.no l F T)) [i5]:=by
 obtain⟨hm,hm64,hfr,hl,hs,hb,hF,hC⟩:=B
 refine jfy O _ (hdA f at_ 0 1) func49 Q9S (call49) Q8e ?_
 repeat' (refine Ba ?_;first|refine Q5P ?_|refine Bf QaU ?_|fail)
 refine Ba ?_
 exact jhp rfl rfl rfl rfl rfl
theorem jd3{f:Frm}{at_:Int}(B:Rg D F f m l)(hk:f.k=7)(lf:jg7)(hlf:T.lives f.s=some lf){h:Hp}{cm:Chunk}(O:On6 D F T now fine n l i0 i1 i2 i3 i4 i5 K h cm):
  qae prog 49 (hdA f at_ i0 i1) h (.tuple #[]) (m6 D now fine n i0 i1 i2 i3 i4 i5 (D.no l F ⟨T.most,jfw T.E f.s,jfl T.lives f.s ⟨lf.boot,true,lf.W⟩⟩)) [i5]:=by
 obtain⟨hm,hm64,hfr,hl,hs,hb,hF,hC⟩:=B
 refine jfy O _ (hdA f at_ 0 1) func49 Q9S (call49) Q8e ?_
 repeat' (refine Ba ?_;first|refine Q5P ?_|refine Q6h ?_|refine Bb (q7n T f.s Q9R lf hlf 3 _ Q9S) ?_|fail)
 refine Ba ?_
 exact jhp rfl rfl rfl rfl rfl
theorem jd4{f:Frm}{at_:Int}(B:Rg D F f m l)(hk:f.k=7)(hlf:T.lives f.s=none){h:Hp}{cm:Chunk}(O:On6 D F T now fine n l i0 i1 i2 i3 i4 i5 K h cm):
  qae prog 49 (hdA f at_ i0 i1) h (.tuple #[]) (m6 D now fine n i0 i1 i2 i3 i4 i5 (D.no l F T)) [i5]:=by
 obtain⟨hm,hm64,hfr,hl,hs,hb,hF,hC⟩:=B
 refine jfy O _ (hdA f at_ 0 1) func49 Q9S (call49) Q8e ?_
 repeat' (refine Ba ?_;first|refine Q5P ?_|refine Q6h ?_|refine Bb (q7o T f.s hlf 3 _ Q9S) ?_|fail)
 refine Ba ?_
 exact jhp rfl rfl rfl rfl rfl
theorem q93{f:Frm}{at_:Int}(B:Rg D F f m l)(hk:f.k=2)(hd:¬ f.ds=D.id){h:Hp}{cm:Chunk}(O:On6 D F T now fine n l i0 i1 i2 i3 i4 i5 K h cm):
  qae prog 49 (hdA f at_ i0 i1) h (.tuple #[]) (m6 D now fine n i0 i1 i2 i3 i4 i5 (D.no l F T)) [i5]:=by
 obtain⟨hm,hm64,hfr,hl,hs,hb,hF,hC⟩:=B
 refine jfy O _ (hdA f at_ 0 1) func49 Q9S (call49) Q8e ?_
 repeat' (refine Ba ?_;first|refine Q5P ?_|refine Q6h ?_|refine Q6N ?_|fail)
 refine Ba ?_
 exact jhp rfl rfl rfl rfl rfl
theorem q94{f:Frm}{at_:Int}(B:Rg D F f m l)(hk:f.k=3)(hd:¬ f.ds=D.id){h:Hp}{cm:Chunk}(O:On6 D F T now fine n l i0 i1 i2 i3 i4 i5 K h cm):
  qae prog 49 (hdA f at_ i0 i1) h (.tuple #[]) (m6 D now fine n i0 i1 i2 i3 i4 i5 (D.no l F T)) [i5]:=by
 obtain⟨hm,hm64,hfr,hl,hs,hb,hF,hC⟩:=B
 refine jfy O _ (hdA f at_ 0 1) func49 Q9S (call49) Q8e ?_
 repeat' (refine Ba ?_;first|refine Q5P ?_|refine Q6h ?_|refine Q6N ?_|fail)
 refine Ba ?_
 exact jhp rfl rfl rfl rfl rfl
theorem q95{f:Frm}{at_:Int}(B:Rg D F f m l)(hk:f.k=4)(hd:¬ f.ds=D.id){h:Hp}{cm:Chunk}(O:On6 D F T now fine n l i0 i1 i2 i3 i4 i5 K h cm):
  qae prog 49 (hdA f at_ i0 i1) h (.tuple #[]) (m6 D now fine n i0 i1 i2 i3 i4 i5 (D.no l F T)) [i5]:=by
 obtain⟨hm,hm64,hfr,hl,hs,hb,hF,hC⟩:=B
 refine jfy O _ (hdA f at_ 0 1) func49 Q9S (call49) Q8e ?_
 repeat' (refine Ba ?_;first|refine Q5P ?_|refine Q6h ?_|refine Q6N ?_|fail)
 refine Ba ?_
 exact jhp rfl rfl rfl rfl rfl
theorem q96{f:Frm}{at_:Int}(B:Rg D F f m l)(hk:f.k=2)(hd:f.ds=D.id)(ho:(qbv D l F T m f at_ now fine).o=none){h:Hp}{cm:Chunk}(O:On6 D F T now fine n l i0 i1 i2 i3 i4 i5 K h cm):
  qae prog 49 (hdA f at_ i0 i1) h (.tuple #[]) (m6 D now fine n i0 i1 i2 i3 i4 i5 (qbv D l F T m f at_ now fine)) [i5]:=by
 obtain⟨hm,hm64,hfr,hl,hs,hb,hF,hC⟩:=B
 refine jfy O _ (hdA f at_ 0 1) func49 Q9S (call49) Q8e ?_
 repeat' (refine Ba ?_;first|refine Q5P ?_|refine Q6h ?_|refine Q6N ?_|fail)
 refine Ba ?_
 refine Bh Q80 λv ms hR=>?_
 obtain⟨rfl,hR⟩:=hR
 rw[ho] at hR
 obtain rfl:=hR
 repeat' (refine Ba ?_;first|refine Q5P ?_|fail)
 refine Ba ?_
 exact jhp rfl rfl rfl rfl rfl
theorem q97{f:Frm}{at_:Int}(B:Rg D F f m l)(hk:f.k=2)(hd:f.ds=D.id)(x:Ou)(ho:(qbv D l F T m f at_ now fine).o=some x){h:Hp}{cm:Chunk}(O:On6 D F T now fine n l i0 i1 i2 i3 i4 i5 K h cm):
  CallAll prog 49 (hdA f at_ i0 i1) h (y6 D now fine n i0 i1 i2 i3 i4 i5 K (qbv D l F T m f at_ now fine) (x)):=by
 obtain⟨hm,hm64,hfr,hl,hs,hb,hF,hC⟩:=B
 refine jlx O _ _ 7 (hdA f at_ 0 1) func49 Q9S (call49) Q8e ?_
 repeat' (refine Ba ?_;first|refine Q5P ?_|refine Q6h ?_|refine Q6N ?_|fail)
 refine Ba ?_
 refine Bh Q80 λv ms hR=>?_
 obtain⟨rfl,hR⟩:=hR
 rw[ho] at hR
 obtain⟨κ,hκ,rfl⟩:=hR
 repeat' (refine Ba ?_;first|refine Q5P ?_|fail)
 refine Ba ?_
 exact fiY hκ rfl rfl rfl rfl rfl rfl Q9V
theorem q98{f:Frm}{at_:Int}(B:Rg D F f m l)(hk:f.k=3)(hd:f.ds=D.id)(ho:(qbv D l F T m f at_ now fine).o=none){h:Hp}{cm:Chunk}(O:On6 D F T now fine n l i0 i1 i2 i3 i4 i5 K h cm):
  qae prog 49 (hdA f at_ i0 i1) h (.tuple #[]) (m6 D now fine n i0 i1 i2 i3 i4 i5 (qbv D l F T m f at_ now fine)) [i5]:=by
 obtain⟨hm,hm64,hfr,hl,hs,hb,hF,hC⟩:=B
 refine jfy O _ (hdA f at_ 0 1) func49 Q9S (call49) Q8e ?_
 repeat' (refine Ba ?_;first|refine Q5P ?_|refine Q6h ?_|refine Q6N ?_|fail)
 refine Ba ?_
 refine Bh Q80 λv ms hR=>?_
 obtain⟨rfl,hR⟩:=hR
 rw[ho] at hR
 obtain rfl:=hR
 repeat' (refine Ba ?_;first|refine Q5P ?_|fail)
 refine Ba ?_
 exact jhp rfl rfl rfl rfl rfl
theorem q99{f:Frm}{at_:Int}(B:Rg D F f m l)(hk:f.k=3)(hd:f.ds=D.id)(x:Ou)(ho:(qbv D l F T m f at_ now fine).o=some x){h:Hp}{cm:Chunk}(O:On6 D F T now fine n l i0 i1 i2 i3 i4 i5 K h cm):
  CallAll prog 49 (hdA f at_ i0 i1) h (y6 D now fine n i0 i1 i2 i3 i4 i5 K (qbv D l F T m f at_ now fine) (x)):=by
 obtain⟨hm,hm64,hfr,hl,hs,hb,hF,hC⟩:=B
 refine jlx O _ _ 7 (hdA f at_ 0 1) func49 Q9S (call49) Q8e ?_
 repeat' (refine Ba ?_;first|refine Q5P ?_|refine Q6h ?_|refine Q6N ?_|fail)
 refine Ba ?_
 refine Bh Q80 λv ms hR=>?_
 obtain⟨rfl,hR⟩:=hR
 rw[ho] at hR
 obtain⟨κ,hκ,rfl⟩:=hR
 repeat' (refine Ba ?_;first|refine Q5P ?_|fail)
 refine Ba ?_
 exact fiY hκ rfl rfl rfl rfl rfl rfl Q9V
theorem jaa{f:Frm}{at_:Int}(B:Rg D F f m l)(hk:f.k=4)(hd:f.ds=D.id)(ho:(qbv D l F T m f at_ now fine).o=none){h:Hp}{cm:Chunk}(O:On6 D F T now fine n l i0 i1 i2 i3 i4 i5 K h cm):
  qae prog 49 (hdA f at_ i0 i1) h (.tuple #[]) (m6 D now fine n i0 i1 i2 i3 i4 i5 (qbv D l F T m f at_ now fine)) [i5]:=by
 obtain⟨hm,hm64,hfr,hl,hs,hb,hF,hC⟩:=B
 refine jfy O _ (hdA f at_ 0 1) func49 Q9S (call49) Q8e ?_
 repeat' (refine Ba ?_;first|refine Q5P ?_|refine Q6h ?_|refine Q6N ?_|fail)
 refine Ba ?_
 refine Bh Q80 λv ms hR=>?_
 obtain⟨rfl,hR⟩:=hR
 rw[ho] at hR
 obtain rfl:=hR
 repeat' (refine Ba ?_;first|refine Q5P ?_|fail)
 refine Ba ?_
 exact jhp rfl rfl rfl rfl rfl
theorem jab{f:Frm}{at_:Int}(B:Rg D F f m l)(hk:f.k=4)(hd:f.ds=D.id)(x:Ou)(ho:(qbv D l F T m f at_ now fine).o=some x){h:Hp}{cm:Chunk}(O:On6 D F T now fine n l i0 i1 i2 i3 i4 i5 K h cm):
  CallAll prog 49 (hdA f at_ i0 i1) h (y6 D now fine n i0 i1 i2 i3 i4 i5 K (qbv D l F T m f at_ now fine) (x)):=by
 obtain⟨hm,hm64,hfr,hl,hs,hb,hF,hC⟩:=B
 refine jlx O _ _ 7 (hdA f at_ 0 1) func49 Q9S (call49) Q8e ?_
 repeat' (refine Ba ?_;first|refine Q5P ?_|refine Q6h ?_|refine Q6N ?_|fail)
 refine Ba ?_
 refine Bh Q80 λv ms hR=>?_
 obtain⟨rfl,hR⟩:=hR
 rw[ho] at hR
 obtain⟨κ,hκ,rfl⟩:=hR
 repeat' (refine Ba ?_;first|refine Q5P ?_|fail)
 refine Ba ?_
 exact fiY hκ rfl rfl rfl rfl rfl rfl Q9V
theorem q1d{f:Frm}{at_:Int}(B:Rg D F f m l)(hok:f.own){h:Hp}{cm:Chunk}(O:On6 D F T now fine n l i0 i1 i2 i3 i4 i5 K h cm):
  CallAll prog 49 (hdA f at_ i0 i1) h (hrR D now fine n (jgo D l F T m f at_ now fine) i0 i1 i2 i3 i4 i5 K):=by
 have B0:=B
 obtain⟨hm,hm64,hfr,hl,hs,hb,hF,hC⟩:=B
 have B:=B0
 have rg:∀k,(k=2\/k=3\/k=4)->f.k=k->jgo D l F T m f at_ now fine=if f.ds=D.id then qbv D l F T m f at_ now fine else D.no l F T:=λk hk e=>by
  unfold jgo;rw[if_neg Q9R,if_neg Q9R,if_pos Q9R]
 by_cases k5:f.k=5
 .refine hrN ?_ rfl (jd0 B k5 O);unfold jgo;rw[if_pos k5]
 by_cases k6:f.k=6
 .have hw:0<=f.wh/\f.wh<64:=by
   unfold Frm.own at hok;rw[if_neg Q9R,if_neg Q9R,if_neg Q9R,if_neg Q9R,if_neg Q9R,if_neg Q9R,if_pos k6] at hok;exact hok.1
  refine hrN ?_ rfl (jd1 B k6 hw O);unfold jgo;rw[if_neg k5,if_pos k6]
 by_cases k7:f.k=7
 .cases hlf:T.lives f.s with
  | some lf=>
   refine hrN ?_ rfl (jd3 B k7 lf hlf O);exact Q5y
  | none=>
   refine hrN ?_ rfl (jd4 B k7 hlf O);exact Q5y
 by_cases k1:f.k=1
 .refine hrN ?_ rfl (jd2 B k1 O);unfold jgo;rw[if_neg k5,if_neg k6,if_neg Q9R,if_neg k7]
 by_cases k2:f.k=2
 .rw[rg 2 Q9R k2];by_cases hd:f.ds=D.id
  .rw[if_pos hd];cases ho:(qbv D l F T m f at_ now fine).o with
   | none=>exact hrN rfl ho (q96 B k2 hd ho O)
   | some x=>exact hrY (by rw[<-ho]) (q97 B k2 hd x ho O)
  .rw[if_neg hd];exact hrN rfl rfl (q93 B k2 hd O)
 by_cases k3:f.k=3
 .rw[rg 3 Q9R k3];by_cases hd:f.ds=D.id
  .rw[if_pos hd];cases ho:(qbv D l F T m f at_ now fine).o with
   | none=>exact hrN rfl ho (q98 B k3 hd ho O)
   | some x=>exact hrY (by rw[<-ho]) (q99 B k3 hd x ho O)
  .rw[if_neg hd];exact hrN rfl rfl (q94 B k3 hd O)
 by_cases k4:f.k=4
 .rw[rg 4 Q9R k4];by_cases hd:f.ds=D.id
  .rw[if_pos hd];cases ho:(qbv D l F T m f at_ now fine).o with
   | none=>exact hrN rfl ho (jaa B k4 hd ho O)
   | some x=>exact hrY (by rw[<-ho]) (jab B k4 hd x ho O)
  .rw[if_neg hd];exact hrN rfl rfl (q95 B k4 hd O)
 .exfalso;unfold Frm.own at hok;rw[if_neg k1,if_neg k7,if_neg k2,if_neg k3,if_neg k4,if_neg k5,if_neg k6] at hok;exact hok
theorem q1e{f:FuncId}{c:Code}{V:Value}(W:World)(hG:jfe prog tys)(hm:prog.follows .mixedOrders=true)(hf:prog.funcs[f]?=some fn)(hb:fn.body=some c)(hW:0<W.heap.size)(hp:vs.all qap=true)(hV:qam V=true)
  (hwp:initK vs fn.ntmps λt=>wpC prog tys 1 c (bodyQ prog tys fn λv st=>N (v=V/\∃F,st.h[0]?=some (some (jfc W F)))) ⟨t,[some (jfc W [])]⟩):Calls prog f ⟨vs⟩ W λe w'=>e=.returned V/\Below W.heap.size W w':=by
 let X:Ctx:=⟨W,λa=>a.block<W.heap.size,1,λ_=>(0,0)⟩
 have one:∀(k:Nat)(d:Chunk),[some (jfc W [])][k]?=some (some d)->k=0/\d=jfc W []:=λk d hk=>Q48
 have H:HOK X (λ_=>(0,0)) [some (jfc W [])] W:=by
  refine⟨Evo.refl _ _,λi hi=>⟨⟨_,by
    have hi:i<1:=hi;obtain rfl:i=0:=by omega
    rfl⟩,rfl⟩,λk d hk=>hW,λk d hk j hj=>?_,λk d hk ho j hj=>?_,λk d l e hk ho hl hne=>?_,λi b=>i=0/\b<W.heap.size,λk d hk=>?_,λk d b hk hS=>?_,λk d b l e hk hS hl hne=>?_⟩
  .exact Q3M
  .exact Q3M
  .exact absurd ((one k d hk).1.trans (one l e hl).1.symm) hne
  .obtain⟨rfl,rfl⟩:=one k d hk;exact⟨λ_=>hW,λb=>⟨λh=>.inl h.2,λh=>by
    rcases h with h|⟨e,he,_⟩
    .exact⟨rfl,h⟩
    .cases he⟩,nlr _,λ_ _=>rfl,yN,λe he=>by cases he⟩
  .exact Q5e
  .exact absurd ((one l e hl).1.trans (one k d hk).1.symm) hne
 have hd:∀{vs:List Value},vs.all qap=true->All2 (Den (Fil [some (jfc W [])]) λ_=>(0,0)) vs vs:=by
  intro vs
  induction vs with
  | nil=>exact λ_=>trivial
  | cons v r ih=>
   intro hp;simp only[yx,xo] at hp;exact⟨Den.plain hp.1,ih hp.2⟩
 refine(qfz (args:=⟨vs⟩) (X:=X) hG hm hf hb H (hd hp) hwp).mono ?_
 rintro e w' ⟨ρ',v,st,x,rfl,H',hdx,hq⟩
 obtain⟨rfl,F,hF⟩:=hq.out
 obtain⟨S,E⟩:=H'.ext
 have M:MemOK W F (ρ' 0) (S 0) w':=E.inv 0 _ hF
 exact⟨by rw[<-hdx.self,qa5 hV],H'.evo.os,H'.evo.tape,H'.evo.output,H'.evo.size,λb hb=>M.old b hb⟩
end Go.Proofs.YtfkngpmgcimdbaaGreat


namespace Go.Proofs.YtfkngpmgcimdbaaGreat.Sx
open Go Go.RowKit
def sh2(l:Nat):Nat:=match l with
 | 0=>0
 | l+1=>l+2
theorem jd5(l:Nat):sh2 l≠1:=by cases l<;>simp[sh2]
theorem qs3{B:Type}{ok:B->Prop}{h:B->Hp}{i j:Nat}{c d c2 e2 d2:Chunk}(o:B->Hp)(ix:List (Nat×Nat))(hix:∀l i,(l,i)∈ix->i=sh2 l)(hn2:e2.n=0)(h1:∀β,(o β)[1]?=some (some e2))
  (hre:∀β,ok β->∀(l:Nat)(dl:Chunk),(h β)[l]?=some (some dl)->∃d':Chunk,(o β)[sh2 l]?=some (some d')/\d'.n=dl.n/\d'.x=dl.x/\∀k,k<d'.n->Re1 ix (d'.f k) (dl.f k))
  (hre':∀β,ok β->∀(k:Nat)(d':Chunk),(o β)[k]?=some (some d')->k=1\/∃l,k=sh2 l/\Fil (h β) l):Opens [⟨i,c,packC ok h,d⟩,⟨j,c2,e2,d2⟩] ok o:=λX ρ w T H=>by
 obtain⟨S,E⟩:=H.ext
 have g0:(partH [⟨i,c,packC ok h,d⟩,⟨j,c2,e2,d2⟩])[0]?=some (some (packC ok h)):=rfl
 have g1:(partH [⟨i,c,packC ok h,d⟩,⟨j,c2,e2,d2⟩])[1]?=some (some e2):=rfl
 have two:∀(k:Nat)(e:Chunk),(partH [⟨i,c,packC ok h,d⟩,⟨j,c2,e2,d2⟩])[k]?=some (some e)->k=0\/k=1:=λk e hk=>by
  match k,hk with
  | 0,_=>exact .inl rfl
  | 1,_=>exact .inr rfl
  | k+2,hk=>simp[partH] at hk
 obtain⟨_,β,hβ,ρp,Tp,e0,hf,K⟩:=E.inv 0 _ g0
 have n0:X.n0=2:=T.n0
 let un:Nat->Nat:=λk=>match k with
  | 0=>0
  | k+1=>k
 have un_sh:∀l,un (sh2 l)=l:=λl=>by cases l<;>rfl
 let ρ':Nat->Nat×Nat:=λk=>if k=1 then ρ 1 else ρp (un k)
 have ρ1:ρ' 1=ρ 1:=if_pos rfl
 have ρs:∀l,ρ' (sh2 l)=ρp l:=λl=>by
  show(if sh2 l=1 then ρ 1 else ρp (un (sh2 l)))=_;rw[if_neg (jd5 l),un_sh]
 have ρ0:ρ' 0=ρ 0:=(ρs 0).trans e0
 have fil0:Fil (o β) 0:=by
  obtain⟨dl,hdl⟩:=hf;obtain⟨d',hd',_⟩:=hre β hβ 0 dl hdl;exact⟨d',hd'⟩
 have filS:∀l,Fil (h β) l->Fil (o β) (sh2 l):=λl ⟨dl,hdl⟩=>by
  obtain⟨d',hd',_⟩:=hre β hβ l dl hdl;exact⟨d',hd'⟩
 have old:∀(k:Nat)(d':Chunk),(o β)[k]?=some (some d')->k≠1->∃(l:Nat)(dl:Chunk),k=sh2 l/\(h β)[l]?=some (some dl)/\d'.n=dl.n/\d'.x=dl.x/\∀q,q<d'.n->Re1 ix (d'.f q) (dl.f q):=λk d' hk hne=>by
  rcases hre' β hβ k d' hk with rfl|⟨l,rfl,dl,hdl⟩
  .exact absurd rfl hne
  .obtain⟨d2,hd2,r1,r2,r3⟩:=hre β hβ l dl hdl;rw[hk] at hd2;obtain rfl:d'=d2:=by simpa using hd2
   exact⟨l,dl,rfl,hdl,r1,r2,r3⟩
 refine⟨β,hβ,ρ',λk hk=>?_,λk hk=>?_,?_⟩
 .obtain⟨e,he⟩:=hk;rcases two k e he with rfl|rfl
  .exact ρ0
  .exact ρ1
 .obtain⟨e,he⟩:=hk;rcases two k e he with rfl|rfl
  .exact fil0
  .exact⟨_,h1 β⟩
 .refine H.redo (T:=λk b=>Tp (un k) b) E (λk=>k=0) (λk=>k≠1) (S 0) (λb hb=>⟨0,_,rfl,g0,.inr hb⟩) (λb hb=>(E.mine 0 _ b g0 hb).2.2) (λk hk=>?_) (λk e hk hA=>?_) (λk e hk hA=>?_) (λk e l f hk hA hl hB hne=>?_)
  .rw[n0] at hk;have:k=0\/k=1:=by omega
   rcases this with rfl|rfl
   .exact⟨fil0,ρ0⟩
   .exact⟨⟨_,h1 β⟩,ρ1⟩
  .obtain rfl:k=1:=Decidable.not_not.1 hA;rw[h1 β] at hk;obtain rfl:e2=e:=by simpa using hk
   exact⟨by decide,ρ1,g1,λq hq=>by rw[hn2] at hq;exact absurd hq (yg q)⟩
  .obtain⟨l,dl,rfl,hdl,r1,r2,r3⟩:=old k e hk hA;have hu:=un_sh l;refine⟨by rw[ρs];exact K.blk l dl hdl,λq hq=>?_,λ_ q hq=>by rw[ρs];exact K.own l dl hdl q Q9R,?_,λb hb=>?_⟩
   .obtain⟨x,hx,hxd⟩:=K.cell l dl hdl q Q9R;rw[ρs];refine⟨x,hx,λr hr=>?_⟩;rw[(r3 q hq).den (r:=r) (r':=λk=>r (sh2 k)) (λa b hab=>by rw[hix a b hab])];exact hxd (λk=>r (sh2 k)) λk hk=>(hr _ (filS k hk)).trans (ρs k)
   .rw[r2,ρs];have:(λb=>Tp (un (sh2 l)) b)=Tp l:=by rw[hu]
    rw[this];exact K.inv l dl hdl
   .rw[hu] at hb;obtain⟨q1,q2⟩:=K.foot l dl b hdl hb;exact⟨q1,by rw[r1,ρs];exact q2⟩
  .obtain⟨a,da,rfl,hda,_⟩:=old k e hk hA;obtain⟨b,db,rfl,hdb,_⟩:=old l f hl hB;have hab:a≠b:=λe=>hne (by rw[e])
   obtain⟨q1,q2⟩:=K.sep a da b db hda hdb hab;exact⟨λ_=>by rw[ρs,ρs];exact q1,λx hx=>by rw[un_sh] at hx ⊢;rw[ρs];exact q2 x hx⟩
end Go.Proofs.YtfkngpmgcimdbaaGreat.Sx


namespace Go.Proofs.YtfkngpmgcimdbaaGreat
open Go Go.RowKit Sx
theorem g1z{p:Nat->Prop}(h:p 0):∀j,j<1->p j:=λj hj=>by
 obtain rfl:j=0:=by omega
 exact h
def qke(s:Sl)(p q:Nat):Sl:=⟨s.b,s.o+(if s.c=p then 0 else p),q-p,s.c-p,none⟩
structure OldB(W:World)(s:Sl)(bs:List Int):Prop where
 sp:s.sp=none
 n:bs.length=s.n
 c:s.n<=s.c
 u8:∀j,j<bs.length->0<=bs.getD j 0/\bs.getD j 0<256
 cell:∀j,j<bs.length->W.cell? ⟨s.b,s.o+j,none⟩=some (.int .u8 (bs.getD j 0))
variable{W:World}{bs:List Int}
theorem OldB.part{s:Sl}(h:OldB W s bs){p q:Nat}(hpq:p<=q)(hq:q<=bs.length):OldB W (qke s p q) ((bs.take q).drop p):=by
 have hl:((bs.take q).drop p).length=q-p:=by rw[List.length_drop,List.length_take,Nat.min_eq_left hq]
 have hg:∀j,j<q-p->((bs.take q).drop p).getD j 0=bs.getD (p+j) 0:=λj hj=>by
  rw[xD,xD,List.getElem?_drop,yL,if_pos Q9R]
 have hn:=h.n;have hc:=h.c;refine⟨rfl,hl,by show q-p<=s.c-p;omega,λj hj=>?_,λj hj=>?_⟩
 .rw[hl] at hj;rw[hg j hj];exact h.u8 _ Q9R
 .rw[hl] at hj;rw[hg j hj];have hne:s.c≠p:=by omega
  show W.cell? ⟨s.b,s.o+(if s.c=p then 0 else p)+j,none⟩=_;rw[if_neg hne,show s.o+p+j=s.o+(p+j) by omega];exact h.cell _ Q9R
variable{st:St}{R:List Rw}
theorem qrn[ZW]{o:Oper}{t:TypeId}{x:Operand}{b f i:Nat}(hz:ZW.z=some W){v:Value}(ho:o.op=.load t x)(hx:EvTo x st (.pointer (some ⟨b,f,none⟩)))(hi:st.h[i]?=some (some (rvC R)))
  (ht:je4 tys t λ_ d=>qd1 d=false) (hp:qbh v=true) (hk:W.cell? ⟨b,f,none⟩=some v):OKs prog o st v [] [i]:=λst₂ hs hh _=>
 qa0 λX ρ a w Rl=>by
  have hi2:st₂.h[i]?=some (some (rvC R)):=(hh i Qa2).trans hi;have hx':=qov (hs x Q9Y _ hx) rfl Rl;obtain⟨ti,d,_,h2,hd⟩:=qao tysOK ht;obtain⟨S,E⟩:=Rl.heap.ext;have V:RvOK R (ρ i) (S i) w:=E.inv i _ hi2;have hy:w.cell? ⟨b,f,none⟩=some v:=by rw[<-hk];exact qer ((V.base W hz).2.2 b (qlz hk)).2
  exact Q4F
theorem qd8{o:Oper}{x:Operand}{lo hi:Option Operand}{vl vh:Option Value}{b f l c p q:Nat}(f2:Nat)(ho:o.op=.slice 37 x lo hi none)(hx:EvTo x st (uV (some ⟨b,f,l,c,none⟩)))(hl:OptTo st lo vl)(hh:OptTo st hi vh)
  (hq:Bnd vh l c q) (hp:Bnd vl 0 q p) (hf:f2=f+(if c=p then 0 else p)):OKs prog o st (uV (some ⟨b,f2,q-p,c-p,none⟩)) [] []:=by
 obtain⟨ei,z,h1,h2,h3,h4,h5⟩:=q01
 have:=q0z (P:=prog) ho hx hl hh underlying37 h1 hq hp
 rw[h2,x9] at this
 rw[hf]
 exact this
abbrev rdC(s:Sl):Chunk:=⟨true,1,[(0,1,uV (some s))]⟩
def jln(n c:Int):Int:=IntKind.i64.wrap (((BitVec.ofInt IntKind.i64.bits (IntKind.i64.wrap (n*2^8))) ||| BitVec.ofInt IntKind.i64.bits c).toNat:Nat)
def takeN(l:List Int):Int:=l.foldl jln 0
theorem qww(bs:List Int)(k:Nat)(h:k<bs.length):takeN (bs.take (k+1))=jln (takeN (bs.take k)) (bs.getD k 0):=by
 unfold takeN;exact Q4g
theorem jpx{ix:List (Nat×Nat)}{s:Sl}:ChunkReLe ix (rdC s) (rdC s):=⟨id,nlr _,g1z .quo⟩
variable{ps:Pz}
theorem jga[ZW](W:World)(hz:ZW.z=some W)(R:List Rw)(s:Sl)(bs:List Int)(hs:OldB W s bs)(w:Nat)(hw:w<=bs.length)(hl:bs.length<=1000)(i k:Nat)(hik:i≠k)(h:Hp)(hi:h[i]?=some (some (rvC R)))(hk:h[k]?=some (some (⟨true,1,ps⟩:Chunk)))(hf:(⟨true,1,ps⟩:Chunk).f 0=uV (some s)):
  qae prog 77 [xd k,xc (w:Nat)] h (xc (takeN (bs.take w))) [(i,rvC R),(k,rdC (qke s w s.n))] []:=by
 obtain⟨sb,so,sn,sc,sp⟩:=s
 obtain⟨hsp,hn,hc,hu,hcl⟩:=hs
 simp only at hsp hn hc hcl
 subst hsp hn
 refine qar (G:=tys) (λ_:Unit=>True) (λ_=>_) [⟨i,rvC R,rvC R,rvC R⟩,⟨k,_,rdC ⟨sb,so,bs.length,sc,none⟩,rdC (qke ⟨sb,so,bs.length,sc,none⟩ w bs.length)⟩] [] [xd 1,xc (w:Nat)] tysOK mixed func77 Q9S (call77) ⟨hi,hk,xb⟩ Q9G (by simp[Apart,hik]) ⟨.inr ⟨rfl,rfl⟩,.inl rfl,xb⟩ xb Q83 Opens.same ?_
 rintro⟨⟩ -
 repeat' (refine Ba ?_;first|refine Q5P ?_|refine Br (qd8 (p:=0) (q:=w) so rfl rfl rfl ⟨_,_,rfl,rfl⟩ ⟨rfl,by show w<=sc;omega⟩ rfl (by split<;>simp)) ?_|refine Q7h ?_|fail)
 refine Ba ?_
 refine Bq (α:=Nat) (λj=>j<=w) (λj=>w-j) (λj=>[(5,xc (takeN (bs.take j))),(15,xc (j:Int))]) (λj=>[]) 0 [(0,0),(1,1)] (xi _) ?_ ?_
 .exact Q26
 intro j hj
 have hj:j<=w:=hj
 by_cases hlt:j<w
 .have st:=qww bs j Q9R;generalize takeN (bs.take j)=n0 at st ⊢;have ek:((j+1:Nat):Int)=IntKind.i64.wrap ((j:Int)+1):=by rw[je5 _ Q9R Q9R];rfl
  have eS:jln n0 (bs.getD j 0)=IntKind.i64.wrap (((BitVec.ofInt IntKind.i64.bits (IntKind.i64.wrap (n0*2^sh 8 IntKind.i64))) ||| BitVec.ofInt IntKind.i64.bits (IntKind.i64.wrap (bs.getD j 0))).toNat:Nat):=by
   have eb:IntKind.i64.wrap (bs.getD j 0)=bs.getD j 0:=by have:=hu j Q9R;exact je5 _ Q9R Q9R
   rw[eb];rfl
  have eb:IntKind.i64.wrap (bs.getD j 0)=bs.getD j 0:=by have:=hu j Q9R;exact je5 _ Q9R Q9R
  repeat' (refine Ba ?_;first|refine Q5P ?_|refine Bg (xg (show((j:Nat):Int)<((w-0:Nat):Int) by omega)) ?_|refine Br (qec (sz:=1) (g:=so+j) tysOK rfl rfl (λρ=>by rw[qd6];rfl) rfl QaA Q9R (by show((j:Nat):Int)<((w-0:Nat):Int);omega) (by rw[y9,x9])) ?_|refine Br (qrn (i:=0) (R:=R) (v:=.int .u8 (bs.getD j 0)) hz rfl rfl Q9S QaA rfl (hcl j Q9R)) ?_|fail)
  refine Ba ?_;refine Bm (α:=Nat) (j+1) [(0,0),(1,1)] ⟨by show j+1<=w;omega,by show w-(j+1)<w-j;omega⟩ ?_;rw[st];exact Q26
 .obtain rfl:j=w:=by omega
  repeat' (refine Ba ?_;first|refine Q5P ?_|refine Bf (xf (show ¬ ((j:Nat):Int)<((j-0:Nat):Int) by omega)) ?_|refine Br (qd8 (p:=j) (q:=bs.length) (so+(if sc=j then 0 else j)) rfl rfl ⟨_,_,rfl,rfl⟩ rfl rfl ⟨rfl,by omega⟩ rfl) ?_|fail)
  refine Ba ?_;refine Bl ?_;repeat' (refine Ba ?_;first|refine Q5P ?_|refine Q6o ?_|refine Bc ⟨Q9C,⟨_,rfl,λh=>h,nlr _,g1z .quo⟩,xb⟩ ?_|refine Bc xb ?_|refine Bc ⟨⟨.inr ⟨_,rfl,rfl⟩,.inl rfl,xb⟩,xb⟩ ?_|exact Be|fail)
theorem qvk[ZW](W:World)(hz:ZW.z=some W)(R:List Rw)(s:Sl)(bs:List Int)(hs:OldB W s bs)(hw:4<=bs.length)(hl:bs.length<=1000)(i k:Nat)(hik:i≠k)(h:Hp)(hi:h[i]?=some (some (rvC R)))(hk:h[k]?=some (some (⟨true,1,ps⟩:Chunk)))(hf:(⟨true,1,ps⟩:Chunk).f 0=uV (some s)):
  qae prog 78 [xd k] h (xc (IntKind.i64.wrap (IntKind.i32.wrap (takeN (bs.take 4))))) [(i,rvC R),(k,rdC (qke s 4 s.n))] []:=by
 refine qar (G:=tys) (λ_:Unit=>True) (λ_=>_) [⟨i,rvC R,rvC R,rvC R⟩,⟨k,_,rdC s,rdC (qke s 4 s.n)⟩] [] [xd 1] tysOK mixed func78 Q9S (call78) ⟨hi,hk,xb⟩ Q9G (by simp[Apart,hik]) ⟨.inr ⟨rfl,rfl⟩,.inl rfl,xb⟩ xb ⟨.ptr rfl,xb⟩ Opens.same ?_
 rintro⟨⟩ -
 repeat' (refine Ba ?_;first|refine Q5P ?_|refine Bb (jga W hz R s bs hs 4 hw hl 0 1 Q9V _ Q9S Q9S rfl) ?_|fail)
 refine Ba ?_
 refine Bl ?_
 repeat' (refine Ba ?_;first|refine Q5P ?_|refine Q6o ?_|refine Bc ⟨Q9C,⟨_,rfl,λh=>h,nlr _,g1z .quo⟩,xb⟩ ?_|refine Bc xb ?_|refine Bc ⟨⟨.inr ⟨_,rfl,rfl⟩,.inl rfl,xb⟩,xb⟩ ?_|exact Be|fail)
theorem jd6[ZW](W:World)(hz:ZW.z=some W)(rt:Rw)(R:List Rw)(s:Sl)(bs:List Int)(hs:OldB W s bs)(hT:TabOK (some rt) (jih 256))(hl:bs.length<=1000)(ht:rt∈R)(i:Nat)(h:Hp)(hi:h[i]?=some (some (rvC R))):
  qae prog 94 [uV (some rt.sl),uV (some s)] h (.int .u32 (sumN bs)) [(i,rvC R)] []:=by
 obtain⟨sb,so,sn,sc,sp⟩:=s
 obtain⟨hsp,hn,hc,hu,hcl⟩:=hs
 simp only at hsp hn hc hcl
 subst hsp hn
 refine qar (G:=tys) (λ_:Unit=>True) (λ_=>_) [⟨i,rvC R,rvC R,rvC R⟩] [] [uV (some rt.sl),uV (some ⟨sb,so,bs.length,sc,none⟩)] tysOK mixed func94 Q9S (call94) ⟨hi,xb⟩ Q8f Q9X Q81 xb ⟨.quo,.quo,xb⟩ Opens.same ?_
 rintro⟨⟩ -
 have htn:rt.n=256:=by have:=hT.n;rw[qox] at this;exact this
 have hTx:rt.xs=(jih 256).map (Value.int .u32):=hT.xs
 have hlt:((uN (some rt.sl):Nat):Int)=256:=by show((rt.n:Nat):Int)=_;rw[htn];rfl
 repeat' (refine Ba ?_;first|refine Q5P ?_|refine Q7h ?_|fail)
 refine Ba ?_
 refine Bq (α:=Nat) (λk=>k<=bs.length) (λk=>bs.length-k) (λk=>[(5,.int .u32 (sumK bs k)),(11,xc (k:Int))]) (λk=>[]) 0 [(0,0)] (xi _) ?_ ?_
 .exact Q0S
 intro k hk
 have hk:k<=bs.length:=hk
 by_cases hkl:k<bs.length
 .have hgc:bs[k]?=some (bs.getD k 0):=by rw[xD,xt hkl];rfl
  have hs:=qri hgc;generalize sumK bs k=s0 at hs;obtain⟨x0,x1⟩:=q03 (IntKind.u8.wrap s0) (bs.getD k 0);have es:sumK bs (k+1)=jgu (jhx s0 8) (jj4 (xor8 (IntKind.u8.wrap s0) (bs.getD k 0)).toNat):=hs;have ex:IntKind.i64.wrap (xor8 (IntKind.u8.wrap s0) (bs.getD k 0))=(xor8 (IntKind.u8.wrap s0) (bs.getD k 0)):=je5 _ Q9R Q9R;have hxe:(jih 256)[(xor8 (IntKind.u8.wrap s0) (bs.getD k 0)).toNat]?=some (jj4 (xor8 (IntKind.u8.wrap s0) (bs.getD k 0)).toNat):=by
   unfold jih;rw[xW,List.getElem?_range Q9R];rfl
  have ek:((k+1:Nat):Int)=IntKind.i64.wrap ((k:Int)+1):=by rw[je5 _ Q9R Q9R];rfl
  repeat' (refine Ba ?_;first|refine Q5P ?_|refine Bg (xg (show((k:Nat):Int)<((bs.length:Nat):Int) by omega)) ?_|refine Bg (xg (show _<_ by rw[hlt,ex];exact x1)) ?_|refine Br (qcw rfl rfl ⟨_,rfl,_,underlying87⟩) ?_|refine Br (qec (sz:=1) (g:=so+k) tysOK rfl rfl (λρ=>by rw[qd6];rfl) rfl QaA Q9R (by show((k:Nat):Int)<((bs.length:Nat):Int);omega) (by rw[y9,x9])) ?_|refine Br (qrn (i:=0) (R:=R) (v:=.int .u8 (bs.getD k 0)) hz rfl rfl Q9S QaA rfl (hcl k Q9R)) ?_|refine Br (qec (sz:=1) (g:=rt.o+(xor8 (IntKind.u8.wrap s0) (bs.getD k 0)).toNat) tysOK rfl rfl (λρ=>by rw[qd6];rfl) rfl QaA (by rw[ex];omega) (by rw[ex];show(xor8 (IntKind.u8.wrap s0) (bs.getD k 0))<((rt.n:Nat):Int);omega) (by rw[ex,x9])) ?_|refine Br (qve (i:=0) rt (v:=.int .u32 (jj4 (xor8 (IntKind.u8.wrap s0) (bs.getD k 0)).toNat)) (xor8 (IntKind.u8.wrap s0) (bs.getD k 0)).toNat tysOK rfl rfl rfl Q9S ht QaA rfl (by rw[hTx,xW,hxe];rfl)) ?_|fail)
  exact Q4u
 .obtain rfl:k=bs.length:=by omega
  repeat' (refine Ba ?_;first|refine Q5P ?_|refine Bf (xf (show ¬ ((bs.length:Nat):Int)<((bs.length:Nat):Int) by omega)) ?_|refine N.notU ?_|refine Bl ?_|refine Q6o ?_|refine Bc Q8s ?_|refine Q61 ?_|exact Be|fail)
theorem jpy[ZW](W:World)(hz:ZW.z=some W)(R:List Rw)(s:Sl)(bs:List Int)(hs:OldB W s bs)(hl:bs.length<=1000)(i:Nat)(h:Hp)(hi:h[i]?=some (some (rvC R))):
  CallAll prog 61 [uV (some s)] h (λv ms=>v=.int .u32 (sumN bs)/\ms=[(i,rvC R)]):=by
 have hil:=(xe.1 hi).1
 have key:=qa7 (G:=tys) (h:=h) (vs:=[uV (some s)]) (λ_:Unit=>True) (λ_=>_) (α:=Rw) (λκ=>True) (λκ=>.int .u32 (sumN bs)) [⟨i,rvC R,rvC R,rvC R⟩] (λκ=>[rvC (κ::R)]) (λκ=>[]) [uV (some s)] tysOK mixed func61 Q9S (call61) ⟨hi,xb⟩ Q8f (λκ _=>Q8f) Q9X Q81 (λκ _=>trivial) ⟨.quo,xb⟩ Opens.same ?_
 .refine CallAll.soft key λv ms hR=>?_
  obtain⟨κ,_,rfl,rfl⟩:=hR;refine⟨i,rvX (κ::R),rvX R,true,0,[],[(i,rvC R)],?_,q9k (List.sublist_cons_self ..),?_,rfl,rfl⟩
  .show(h.set i _)[i]?=_;rw[xw hil]
  .show(h.set i _).set i _=h.set i _;rw[zm]
 rintro⟨⟩ -
 repeat' (refine Ba ?_;first|refine Q5P ?_|fail)
 refine Ba ?_
 refine Bh (jdi R 0 _ Q9S) λv ms hR=>?_
 obtain⟨rt,hT,rfl,rfl⟩:=hR
 repeat' (refine Ba ?_;first|refine Q5P ?_|refine Bb (jd6 W hz rt (rt::R) s bs hs hT hl (zn ..) 0 _ Q9S) ?_|refine Bl ?_|refine Bn rt ⟨xb,?_⟩|refine Q6o ?_|refine Bc Q8s ?_|refine Q61 ?_|exact Be|fail)
variable{P:Program}
theorem qwx{g:FuncId}{vs:List Value}{h:Hp}{v:Value}{ms:Mz}(hc:∀h₂:Hp,(∀m∈ms,h₂[m.1]?=h[m.1]?)->CallAll P g vs h₂ λv' ms'=>v'=v/\ms'=ms):qae P g vs h v ms []:=λh₂ _ hm X ρ w xs H hx=>by
 rcases hc h₂ hm X ρ w xs H hx with ⟨x,w',h1,v',ms',ρ',⟨rfl,rfl⟩,h2⟩|⟨h1,h2⟩
 .exact .inl ⟨x,w',h1,ρ',h2⟩
 .refine .inr ⟨h1,h2.mono ?_⟩;rintro e w' ⟨x,he,v',ms',ρ',⟨rfl,rfl⟩,h3⟩;exact⟨x,he,ρ',h3⟩
theorem jpz[ZW](W:World)(hz:ZW.z=some W)(R:List Rw)(s:Sl)(bs:List Int)(hs:OldB W s bs)(hl:bs.length<=1000)(i:Nat)(h:Hp)(hi:h[i]?=some (some (rvC R))):
  qae prog 61 [uV (some s)] h (.int .u32 (sumN bs)) [(i,rvC R)] []:=
 qwx λh₂ hm=>jpy W hz R s bs hs hl i h₂ ((hm _ (yw.2 rfl)).trans hi)
theorem OldB.dropw{s:Sl}(h:OldB W s bs)(p:Nat)(hp:p<=bs.length):OldB W (qke s p s.n) (bs.drop p):=by
 have:=h.part (p:=p) (q:=bs.length) hp (nlr _);rw[List.take_length,h.n] at this;exact this
theorem OldB.takew{s:Sl}(h:OldB W s bs)(q:Nat)(hq:q<=bs.length):OldB W (qke s 0 q) (bs.take q):=by
 have:=h.part (p:=0) (q:=q) (xi _) hq;exact this
theorem q1f[ZW]{o:Oper}{t d:TypeId}{x:Operand}{i:Nat}(hz:ZW.z=some W){s:Sl}(ho:o.op=.convert t d x)(hx:EvTo x st (uV (some s)))(hi:st.h[i]?=some (some (rvC R)))
  (ht:je4 tys t λ_ sd=>match sd with|.slice e=>je4 tys e λ_ ed=>ed=.int .u8|_=>False) (hd:je4 tys d λ_ dd=>dd=.string) (hs:OldB W s bs):OKs prog o st (.string (strOfNums bs)) [] [i]:=λst₂ hs2 hh _=>
 qa0 λX ρ a w Rl=>by
  have hi2:st₂.h[i]?=some (some (rvC R)):=(hh i Qa2).trans hi;have hx':a.eval x=uR (some s):=by rw[<-((hs2 x Q9Y _ hx).den Rl).self,qd6]
  obtain⟨_,sd,_,h1,ht⟩:=qao tysOK ht;obtain⟨_,dd,_,h2,rfl⟩:=qao tysOK hd;obtain⟨S,E⟩:=Rl.heap.ext;have V:RvOK R (ρ i) (S i) w:=E.inv i _ hi2;obtain⟨qb,qo,qn,qc,sp⟩:=s;obtain⟨hsp,hn,hc,hu,hcl⟩:=hs;simp only at hsp hn hc hcl;subst hsp;have hcells:∀j,j<bs.length->w.cell? ⟨qb,qo+j,none⟩=some (.int .u8 (bs.getD j 0)):=λj hj=>by
   have h:=hcl j hj;rw[<-h];exact qer ((V.base W hz).2.2 qb (qlz h)).2
  split at ht
  .obtain⟨_,ed,_,h3,rfl⟩:=qao tysOK ht;refine⟨_,?_,Den.plain rfl⟩;simp only[execOp,ho,hx',Sem.run_bind,Sem.run_pure,Result.andThen_ok];rw[show uR (some ⟨qb,qo,qn,qc,none⟩)=.slice (some ⟨qb,qo,none⟩) qn qc from rfl,run_convert_bytes_arg w t _ h1 h3 qb qo qn qc bs hn (λj hj=>hcells j Q9R) d h2];rfl
  .exact ht.elim
def jmz(bs:List Int):Frm:=⟨takeN ((bs.drop 4).take 1),takeN ((bs.drop 5).take 1),takeN ((bs.drop 8).take 2),takeN ((bs.drop 10).take 2),takeN ((bs.drop 12).take 8),takeN ((bs.drop 6).take 1),takeN ((bs.drop 20).take 8),takeN ((bs.drop 28).take 8),takeN ((bs.drop 7).take 1),takeN ((bs.drop 36).take 8),IntKind.i64.wrap (IntKind.i32.wrap (takeN ((bs.drop 44).take 4))),IntKind.i64.wrap (IntKind.i32.wrap (takeN ((bs.drop 48).take 4))),takeN ((bs.drop 52).take 8),takeN ((bs.drop 60).take 8),takeN ((bs.drop 68).take 8)⟩
def jq0:ByteArray:=⟨#[97,108,105,49]⟩
def decF(bs:List Int):Frm×Int:=
 if bs.length<80 then (Frm.o,4) else if 80<bs.length then (Frm.o,5) else if strOfNums (bs.take 4)≠jq0 then (Frm.o,5)
 else if takeN ((bs.drop 76).take 4)≠IntKind.i64.wrap (sumN (bs.take 76)) then (Frm.o,6) else if (jmz bs).may then (jmz bs,0) else (Frm.o,5)
abbrev decV(r:Frm×Int):Value:=.tuple #[fmV r.1,xc r.2]
theorem OldB.nx{s:Sl}{p w:Nat}(h:OldB W s (bs.drop p))(hw:p+w<=bs.length):OldB W (qke s w s.n) (bs.drop (p+w)):=by
 have:=h.dropw w Qa0;rw[List.drop_drop] at this;exact this
theorem dcN{p:Prop}[Decidable p](h:¬ p):(!decide p)=true:=by rw[xf h];rfl
theorem dcY{p:Prop}[Decidable p](h:p):(!decide p)=false:=by rw[xg h];rfl
theorem q6t(x y:Operand)(a b:ByteArray):BinIs prog .neq 9 x y (.string a) (.string b) (.bool (!decide (a=b))):=⟨rfl,rfl,rfl,λw=>by
 by_cases h:a=b
 .subst h;rw[xg rfl];go_simp
 .rw[xf h];go_simp;rw[ByteArray.toList_eq,ByteArray.toList_eq];exact λe=>h (ByteArray.ext (xJ.1 e))⟩
theorem jac[ZW](W:World)(hz:ZW.z=some W)(R:List Rw)(s:Sl)(bs:List Int)(hs:OldB W s bs)(i:Nat)(h:Hp)(hi:h[i]?=some (some (rvC R))):
  CallAll prog 46 [uV (some s)] h (λv ms=>v=decV (decF bs)/\ms=[(i,rvC R)]):=by
 obtain⟨sb,so,sn,sc,sp⟩:=s
 obtain rfl:sp=none:=hs.sp
 have hn:bs.length=sn:=hs.n
 have hc:sn<=sc:=hs.c
 have key:=qa7 (G:=tys) (h:=h) (vs:=[uV (some ⟨sb,so,sn,sc,none⟩)]) (λ_:Unit=>True) (λ_=>_) (α:=Unit) (λ_=>True) (λ_=>decV (decF bs)) [⟨i,rvC R,rvC R,rvC R⟩] (λ_=>[rvC R]) (λ_=>[]) [uV (some ⟨sb,so,sn,sc,none⟩)] tysOK mixed func46 Q9S (call46) ⟨hi,xb⟩ Q8f (λκ _=>Q8f) Q9X Q81 (λκ _=>trivial) ⟨.quo,xb⟩ Opens.same ?_
 .refine qav key λv ms hR=>?_
  obtain⟨_,_,rfl,rfl⟩:=hR;exact⟨rfl,rfl⟩
 rintro⟨⟩ -
 by_cases h1:bs.length<80
 .rw[show decF bs=(Frm.o,4) from if_pos h1];exact Q1n
 by_cases h2:80<bs.length
 .rw[show decF bs=(Frm.o,5) by unfold decF;rw[if_neg h1,if_pos h2]];exact Q1n
 have h80:sn=80:=by omega
 by_cases he:strOfNums (bs.take 4)=jq0
 rotate_left
 .rw[show decF bs=(Frm.o,5) by unfold decF;rw[if_neg h1,if_neg h2,if_pos he]];repeat' (refine Ba ?_;first|refine Q5P ?_|refine Q6C ?_|refine Bg (dcN he) ?_|refine Q7G ?_|refine Q6o ?_|refine Bc Q8s ?_|refine Q61 ?_|exact Be|fail)
 repeat' (refine Ba ?_;first|refine Q5P ?_|refine Q6C ?_|refine Bf (dcY he) ?_|refine Br (qd8 (p:=76) (q:=sn) (so+(if sc=76 then 0 else 76)) rfl rfl ⟨_,_,rfl,⟨rfl,rfl⟩⟩ rfl rfl ⟨rfl,by omega⟩ rfl) ?_|refine Bb (jga W hz R _ (bs.drop 76) (hs.dropw 76 Q9R) 4 Qa0 Qa0 0 _ Q9V _ Q9S Q9S Q9S) ?_|refine Br (qd8 (p:=0) (q:=76) (so+(if sc=0 then 0 else 0)) rfl rfl rfl ⟨_,_,rfl,⟨rfl,rfl⟩⟩ ⟨rfl,by omega⟩ rfl rfl) ?_|refine Bb (jpz W hz R _ (bs.take 76) (hs.takew 76 Q9R) (by rw[List.length_take];omega) 0 _ Q9S) ?_|fail)
 by_cases hsum:takeN ((bs.drop 76).take 4)=IntKind.i64.wrap (sumN (bs.take 76))
 rotate_left
 .rw[show decF bs=(Frm.o,6) by unfold decF;rw[if_neg h1,if_neg h2,if_neg (λh=>h he),if_pos hsum]];repeat' (refine Ba ?_;first|refine Q5P ?_|refine Bg (bne_iff_ne.2 hsum) ?_|refine Q7G ?_|refine Q6o ?_|refine Bc Q8s ?_|refine Q61 ?_|exact Be|fail)
 have O0:=hs.dropw 4 Q9R
 have O1:=O0.nx (w:=1) Q9R
 have O2:=O1.nx (w:=1) Q9R
 have O3:=O2.nx (w:=1) Q9R
 have O4:=O3.nx (w:=1) Q9R
 have O5:=O4.nx (w:=2) Q9R
 have O6:=O5.nx (w:=2) Q9R
 have O7:=O6.nx (w:=8) Q9R
 have O8:=O7.nx (w:=8) Q9R
 have O9:=O8.nx (w:=8) Q9R
 have O10:=O9.nx (w:=8) Q9R
 have O11:=O10.nx (w:=4) Q9R
 have O12:=O11.nx (w:=4) Q9R
 have O13:=O12.nx (w:=8) Q9R
 have O14:=O13.nx (w:=8) Q9R
 by_cases hm:(jmz bs).may
 .rw[show decF bs=(jmz bs,0) by unfold decF;rw[if_neg h1,if_neg h2,if_neg (λh=>h he),if_neg (λh=>h hsum),if_pos hm]];exact Q10
 .rw[show decF bs=(Frm.o,5) by unfold decF;rw[if_neg h1,if_neg h2,if_neg (λh=>h he),if_neg (λh=>h hsum),if_neg hm]];exact Q10
open Go Go.RowKit Sx
theorem q1g[ZW]{g:FuncId}{vs xs:List Value}{V:Value}(W:World)(hz:ZW.z=some W)(hW:0<W.heap.size)(hr:∀w,(callFunc g ⟨xs⟩).run P w=.ok (.enter g ⟨xs⟩) w)(hV:qam V=true)(hx:∀(F:Nat->Prop) ρ,All2 (Den F ρ) vs xs)(hc:CallAll P g vs [some (rvC [])] λv ms=>v=V/\ms=[(0,rvC [])]):Calls P g ⟨xs⟩ W λe w'=>e=.returned V/\Below W.heap.size W w':=by
 let X:Ctx:=⟨W,λa=>a.block<W.heap.size,1,λ_=>(0,0)⟩;have one:∀(k:Nat)(d:Chunk),[some (rvC [])][k]?=some (some d)->k=0/\d=rvC []:=λk d hk=>Q48
 have H:HOK X (λ_=>(0,0)) [some (rvC [])] W:=Q1j;rcases hc X _ W xs H (hx _ _) with ⟨x,w',h1,_⟩|⟨_,h2⟩
 .rw[hr] at h1;cases h1
 .refine h2.mono ?_;rintro e w' ⟨x,rfl,v,ms,ρ',⟨rfl,rfl⟩,ha,H',hd⟩;obtain⟨S,E⟩:=H'.ext;have M:RvOK [] (ρ' 0) (S 0) w':=E.inv 0 _ rfl;exact⟨by rw[<-hd.self,qa5 hV],H'.evo.os,H'.evo.tape,H'.evo.output,H'.evo.size,λb hb=>((M.base W hz).2.2 b hb).2⟩
theorem q44(u:Option Sl)(hu:uN u<80)(h:Hp):qae prog 46 [uV u] h (decV (Frm.o,4)) [] []:=by
 refine qak (G:=tys) [] [] [uV u] tysOK mixed func46 Q9S (call46) xb xb xb xb ⟨.quo,xb⟩ ?_;repeat' (refine Ba ?_;first|refine Q5P ?_|refine Q7h ?_|refine Bg (xg (show((uN u:Nat):Int)<80 by omega)) ?_|refine Q6o ?_|refine Bc xb ?_|exact Be|fail)
theorem qhq(W:World)(F:List By)(u:Option Sl)(bs:List Int)(hs:Src W F u bs)(hu:∀j,j<bs.length->0<=bs.getD j 0/\bs.getD j 0<256)(hc:∀s,u=some s->s.n<=s.c)(i:Nat)(h:Hp)(hi:h[i]?=some (some (jfc W F))):
  qae prog 46 [uV u] h (decV (decF bs)) [] [i]:=λh₂ hrh hms X ρ w xs H hx=>by
 obtain⟨S,E⟩:=H.ext
 have hi2:h₂[i]?=some (some (jfc W F)):=(hrh i Q8a).trans hi
 have M:MemOK W F (ρ i) (S i) w:=E.inv i _ hi2
 have hb:=M.src hs
 by_cases h80:bs.length<80
 .rw[show decF bs=(Frm.o,4) from if_pos h80];exact q44 u (by rw[<-hb.1];exact h80) h h₂ (λq hq=>by cases hq) hms X ρ w xs H hx
 cases u with
 | none=>exact absurd hb.1 (by show ¬ bs.length=0;omega)
 | some s=>
  have hn:bs.length=s.n:=hb.1;have hsp:s.sp=none:=by
   rcases(hb.2 s rfl).1 with h1|h1
   .exact h1
   .omega
  have hlt:0<w.heap.size:=by
   have:=qlz ((hb.2 s rfl).2 0 Q9R);omega
  letI:ZW:=⟨some w⟩
  have O:OldB w s bs:=⟨hsp,hn,hc s rfl,hu,(hb.2 s rfl).2⟩;obtain rfl:xs=[uR (some s)]:=by
   cases xs with
   | nil=>exact hx.elim
   | cons x r=>
    cases r with
    | cons _ _=>exact hx.2.elim
    | nil=>rw[<-hx.1.self,qd6]
  refine .inr ⟨call46 _ w,(q1g w rfl hlt (λw=>call46 _ w) (V:=decV (decF bs)) rfl (vs:=[uV (some s)]) (xs:=[uR (some s)]) (λF ρ=>⟨λr _=>qd6 _ r,xb⟩) (jac w rfl [] s bs O 0 _ rfl)).mono ?_⟩;rintro e w' ⟨rfl,hB⟩;exact⟨decV (decF bs),rfl,ρ,AgreeOn.refl _ _,H.frame hB,λr _=>qa5 rfl r⟩
def qg7(st now stale skew:Int):Int:=if qbl st/\qbl now/\qbl stale/\qbl skew then (if st+stale<now then 9 else if now+2*skew<st then 9 else 0) else 1
theorem q45(t:Int)(W:World):xa 79 #[xc t] W (.bool (decide (qbl t))):=by
 by_cases h0:0<=t
 .by_cases h1:t<=1000000
  .rw[xg (show qbl t from⟨h0,h1⟩)];refine Q4V ?_;repeat' (refine Ba ?_;first|refine Q5P ?_|refine Q60 ?_|refine Q64 ?_|fail)
   all_goals (first|rfl|rw[xg h1])
  .rw[xf (show ¬ qbl t from λh=>h1 h.2)];refine Q4V ?_;repeat' (refine Ba ?_;first|refine Q5P ?_|refine Q60 ?_|refine Q64 ?_|fail)
   all_goals (first|rfl|rw[xf h1])
 .rw[xf (show ¬ qbl t from λh=>h0 h.1)];refine Q4V ?_;repeat' (refine Ba ?_;first|refine Q5P ?_|refine Q60 ?_|refine Q64 ?_|fail)
  all_goals rfl
theorem qib(t:Int)(h:Hp):qae prog 79 [xc t] h (.bool (decide (qbl t))) [] []:=
 qai rfl rfl (call79 _) (q45 t)
theorem q1h(st now stale skew:Int)(W:World):xa 47 #[xc st,xc now,xc stale,xc skew] W (xc (qg7 st now stale skew)):=by
 unfold qg7;by_cases h1:qbl st;rotate_left
 .rw[if_neg (λh=>h1 h.1)];exact Q0f
 by_cases h2:qbl now;rotate_left
 .rw[if_neg (λh=>h2 h.2.1)];exact Q0f
 by_cases h3:qbl stale;rotate_left
 .rw[if_neg (λh=>h3 h.2.2.1)];exact Q0f
 by_cases h4:qbl skew;rotate_left
 .rw[if_neg (λh=>h4 h.2.2.2)];exact Q0f
 rw[if_pos ⟨h1,h2,h3,h4⟩];have a1:=h1.1;have a2:=h1.2;have b1:=h2.1;have b2:=h2.2;have c1:=h3.1;have c2:=h3.2;have d1:=h4.1;have d2:=h4.2;have e1:IntKind.i64.wrap (st+stale)=st+stale:=je5 _ Q9R Q9R;have e3:IntKind.i64.wrap (now+IntKind.i64.wrap (2*skew))=now+2*skew:=by rw[je5 (2*skew) Q9R Q9R,je5 _ Q9R Q9R]
 by_cases g1:st+stale<now
 .rw[if_pos g1];exact Q0f
 rw[if_neg g1];by_cases g2:now+2*skew<st
 .rw[if_pos g2];exact Q0f
 rw[if_neg g2];exact Q0f
theorem qkt(st now stale skew:Int)(h:Hp):qae prog 47 [xc st,xc now,xc stale,xc skew] h (xc (qg7 st now stale skew)) [] []:=
 qai rfl rfl (call47 _) (q1h st now stale skew)
end Go.Proofs.YtfkngpmgcimdbaaGreat
