/-
  A node takes a frame.
-/
import Derived.KernelRfl
import Derived.Test.YtfkngpmgcimdbaaGreatR8
set_option linter.unusedVariables false
set_option linter.unusedSimpArgs false
set_option maxRecDepth 100000
set_option maxHeartbeats 20000000
open Go.IntKind
theorem Go.Proofs.yj:type_of% @List.drop_drop:=@List.drop_drop
theorem Go.Proofs.zm:type_of% @Nat.add_mul_div_right:=@Nat.add_mul_div_right
open Go.Proofs.Tryz
namespace Go.Proofs
section
variable{Z Y:Prop}
theorem Q0b(h:Z:=by
 refine qac (G:=tys) W tysOK mixed func47 Q8F Q8F Q8F ?_;repeat' (refine Ba ?_;first|refine Q4Z ?_|refine Bb (qh7 _ _) ?_|refine Bf (ynT h1) ?_|refine Bg (nyT h1) ?_|refine Bf (ynT h2) ?_|refine Bg (nyT h2) ?_|refine Bf (ynT h3) ?_|refine Bg (nyT h3) ?_|refine Bf (ynT h4) ?_|refine Bg (nyT h4) ?_|refine Bg (by rw[e1,xh];omega) ?_|refine Bf (by rw[e1,xj];omega) ?_|refine Bg (by rw[e3,xh];omega) ?_|refine Bf (by rw[e3,xj];omega) ?_|fail)
 all_goals rfl):Z:=h
theorem Q0r(h:Z:=by repeat' (refine Ba ?_;first|refine Q4Z ?_|refine Q5P ?_|refine Bg (xf (show((sn:Nat):Int)<80 by omega)) ?_|refine Bf (xe (show ¬ ((sn:Nat):Int)<80 by omega)) ?_|refine Bg (xf (show(80:Int)<((sn:Nat):Int) by omega)) ?_|refine Q6t ?_|refine Q5x ?_|refine Bc Q7j ?_|refine Q5c ?_|exact Be|fail)):Z:=h
theorem Q0v(h:Z:=by repeat' (refine Ba ?_;first|refine Q4Z ?_|exact Be|refine Q5S ?_|refine Q6T ?_|refine Bc (qa9 (qa1 es) rfl) ?_|refine Bc qdq ?_|refine Bc (.one .quo) ?_|fail)):Z:=h
theorem Q0U(h:Z:=by
 rw[show decF bs=(Frm.o,5) by unfold decF;rw[if_neg h1,if_neg h2,if_pos he]];repeat' (refine Ba ?_;first|refine Q4Z ?_|refine Q5n ?_|refine Bg (dcN he) ?_|refine Q6t ?_|refine Q5x ?_|refine Bc Q7j ?_|refine Q5c ?_|exact Be|fail)):Z:=h
theorem Q10(h:Z:=by
 repeat' (refine Ba ?_;first|refine Q4Z ?_|refine Bf (bne_eq_false_iff_eq.2 hsum) ?_|refine Bm (qbz (p:=4) (q:=sn) (so+(if sc=4 then 0 else 4)) rfl rfl ⟨_,_,rfl,⟨rfl,rfl⟩⟩ rfl rfl ⟨rfl,by omega⟩ rfl) ?_|fail)
 refine Ba ?_;refine Bb (jfq W hz R _ (bs.drop 4) O0 1 Q8N Q8N 0 _ Q8I _ Q8F Q8F Q8F) ?_;refine Q04 ?_;refine Bb (jfq W hz R _ (bs.drop 5) O1 1 Q8N Q8N 0 _ Q8I _ Q8F Q8F Q8F) ?_;refine Q04 ?_;refine Bb (jfq W hz R _ (bs.drop 6) O2 1 Q8N Q8N 0 _ Q8I _ Q8F Q8F Q8F) ?_;refine Q04 ?_;refine Bb (jfq W hz R _ (bs.drop 7) O3 1 Q8N Q8N 0 _ Q8I _ Q8F Q8F Q8F) ?_;refine Q04 ?_;refine Bb (jfq W hz R _ (bs.drop 8) O4 2 Q8N Q8N 0 _ Q8I _ Q8F Q8F Q8F) ?_;refine Q04 ?_;refine Bb (jfq W hz R _ (bs.drop 10) O5 2 Q8N Q8N 0 _ Q8I _ Q8F Q8F Q8F) ?_;refine Q04 ?_;refine Bb (jfq W hz R _ (bs.drop 12) O6 8 Q8N Q8N 0 _ Q8I _ Q8F Q8F Q8F) ?_;refine Q04 ?_;refine Bb (jfq W hz R _ (bs.drop 20) O7 8 Q8N Q8N 0 _ Q8I _ Q8F Q8F Q8F) ?_;refine Q04 ?_;refine Bb (jfq W hz R _ (bs.drop 28) O8 8 Q8N Q8N 0 _ Q8I _ Q8F Q8F Q8F) ?_;refine Q04 ?_
 refine Bb (jfq W hz R _ (bs.drop 36) O9 8 Q8N Q8N 0 _ Q8I _ Q8F Q8F Q8F) ?_;refine Q04 ?_;refine Bb (qu8 W hz R _ (bs.drop 44) O10 Q8N Q8N 0 _ Q8I _ Q8F Q8F Q8F) ?_;refine Q04 ?_;refine Bb (qu8 W hz R _ (bs.drop 48) O11 Q8N Q8N 0 _ Q8I _ Q8F Q8F Q8F) ?_;refine Q04 ?_;refine Bb (jfq W hz R _ (bs.drop 52) O12 8 Q8N Q8N 0 _ Q8I _ Q8F Q8F Q8F) ?_;refine Q04 ?_;refine Bb (jfq W hz R _ (bs.drop 60) O13 8 Q8N Q8N 0 _ Q8I _ Q8F Q8F Q8F) ?_;refine Q04 ?_;refine Bb (jfq W hz R _ (bs.drop 68) O14 8 Q8N Q8N 0 _ Q8I _ Q8F Q8F Q8F) ?_;refine Q04 ?_;refine Bb (q0o (jjj bs) _) ?_;repeat' (refine Ba ?_;first|refine Q4Z ?_|refine Bf (dcY hm) ?_|refine Bg (dcN hm) ?_|refine Q6t ?_|refine Q5x ?_|refine Bc Q7j ?_|refine Q5c ?_|exact Be|fail)):Z:=h
theorem Q1F(h:Z:=by
 obtain rfl:k=1:=by simpa using hk
 exact Q4H):Z:=h
theorem Q1G(h:Z:=by repeat' (refine Ba ?_;first|refine Q55 ?_|refine Q51 ?_|refine Q64 ?_|refine Q5i ?_|refine Q5e ?_|refine Bg Q9h ?_|refine Q70 ?_|exact Be|fail)):Z:=h
theorem Q1M(h:Z:=by repeat' (refine Ba ?_;first|refine Q4Z ?_|exact Be|refine Q5l ?_|refine Bc (.one .quo) ?_|refine Bc qdq ?_|refine Bc jo5 ?_|refine Q6T ?_|refine Bc (qa9 (qa1 eS) rfl) ?_|fail)):Z:=h
theorem Q1P(h:Z:=by repeat' (refine Ba ?_;first|refine Q4Z ?_|refine Q5P ?_|refine Bg (xf (show((uN u:Nat):Int)<80 by omega)) ?_|refine Q5x ?_|refine Bc xb ?_|exact Be|fail)):Z:=h
theorem Q20(h:Z:=by repeat' (refine Ba ?_;first|refine Q55 ?_|refine Q51 ?_|refine Q5i ?_|refine Q5e ?_|refine Bg Q9h ?_|refine Q70 ?_|exact Be|fail)):Z:=h
theorem Q34(h:Z:=by
 refine Ba ?_;refine Bk (α:=Nat) (k+1) [(0,0)] ⟨hkl,by show bs.length-(k+1)<bs.length-k;omega⟩ ?_;exact Q0v):Z:=h
theorem Q3P(h:Z:=by
 cases xs with
 | nil=>exact hx.elim
 | cons x r=>
  cases r with
  | cons _ _=>exact hx.2.elim
  | nil=>rw[<-hx.1.self,qbs]):Z:=h
theorem Q3X(h:Z:=by
 obtain⟨_,_,rfl,rfl,rfl,rfl,rfl,rfl,rfl,rfl,rfl,rfl⟩:=h;exact⟨hk256,hs,f0,f0,hb,hq,hst,fi0,fi0,fi0,g0,g0,fi0,fi0,fi0⟩):Z:=h
theorem Q45(h:Z:=by
 rintro e w' ⟨rfl,hB⟩;exact⟨decV (decF bs),rfl,ρ,AgreeOn.refl _ _,H.frame hB,λr _=>qa0 rfl r⟩):Z:=h
theorem Q4j(k:Y)(h:Wr Y->Z:=by
 intro kQ;refine qac (G:=tys) W tysOK mixed func79 Q8F Q8F Q8F ?_;exact kQ.o):Z:=h ⟨k⟩
theorem Q4B(h:Z:=by
 refine qax key λv ms hR=>?_
 obtain⟨_,_,rfl,rfl⟩:=hR;exact⟨rfl,rfl⟩):Z:=h
theorem Q4C(h:Z:=by
 rw[show decF bs=(Frm.o,5) by unfold decF;rw[if_neg h1,if_pos h2]];exact Q0r):Z:=h
theorem Q4H(h:Z:=by
 obtain rfl:jew W B=d:=by simpa using hd
 exact absurd hl (xX l)):Z:=h
theorem Q4L(h:Z:=by unfold jfu Tbl.leave;rw[if_neg k5,if_neg k6,if_neg Q8E,if_pos k7,hlf]):Z:=h
theorem Q4P(h:Z:=by rename_i hd;rw[if_neg hd] at h;exact absurd h (by show ¬ (9:Int)=0;decide)):Z:=h
theorem Q4W(h:Z:=by
 obtain rfl:_=dl:=by simpa using hl
 exact⟨_,rfl,rfl,rfl,re2⟩):Z:=h
theorem Q5n(k:Y)(h:Wr Y->Z:=by intro kQ;(first|refine Bm (qca rfl rfl ⟨_,rfl,_,underlying37⟩) ?_|refine Bf (xe (show ¬ ((sn:Nat):Int)<80 by omega)) ?_|refine Bf (xe (show ¬ (80:Int)<((sn:Nat):Int) by omega)) ?_|refine Bm (qbz (p:=0) (q:=4) (so+(if sc=0 then 0 else 0)) rfl rfl rfl ⟨_,_,rfl,⟨rfl,rfl⟩⟩ ⟨rfl,by omega⟩ rfl rfl) ?_|refine Bm (qjt (i:=0) (R:=R) hz rfl rfl Q8F Q8X Q8X (hs.takew 4 Q8E)) ?_|refine Br _ (qm6 _ _ _ _) ?_|fail);exact kQ.o):Z:=h ⟨k⟩
theorem Q5z(k:Y)(h:Wr Y->Z:=by intro kQ;(first|refine Bb (qgt now _) ?_|refine Bb (qhj W B u bs hs hu hc 1 _ Q8F) ?_|refine Bf Q9P ?_|refine Bf (ni hd) ?_|refine Bf (en ho) ?_|refine Bb (qkl (decF bs).1.st now (s.C 6) (s.C 4) _) ?_|refine Bf (ni hf) ?_|refine Bb (jnf s.T ok.T (decF bs).1.s (decF bs).1.b (decF bs).1.q now _ _ rfl 3 _ Q8F) ?_|fail);exact kQ.o):Z:=h ⟨k⟩
theorem Q5D(k:Y)(h:Wr Y->Z:=by intro kQ;(first|refine Bb (qgt now _) ?_|refine Bb (qhj W B u bs hs hu hc 1 _ Q8F) ?_|refine Bf Q9P ?_|fail);exact kQ.o):Z:=h ⟨k⟩
theorem Q5P(k:Y)(h:Wr Y->Z:=by intro kQ;(first|refine Bm (qca rfl rfl ⟨_,rfl,_,underlying37⟩) ?_|fail);exact kQ.o):Z:=h ⟨k⟩
theorem Q5Z(k:Y)(h:Wr Y->Z:=by intro kQ;(first|refine Bf (en hd) ?_|refine Bg (ei hd) ?_|fail);exact kQ.o):Z:=h ⟨k⟩
theorem Q64(k:Y)(h:Wr Y->Z:=by intro kQ;(first|refine Bj y 1 e1 Q8E ?_|refine Bl _ (qb4 (p:=y) Q8E Q8E) ?_|fail);exact kQ.o):Z:=h ⟨k⟩
theorem Q68(k:Y)(h:Wr Y->Z:=by intro kQ;(first|refine Bb (jh1 v m l _ _ _ Q8F (je7 _ _ _) hl Q8E hv) ?_|refine Bb (qs1 v m _ _ _ Q8F (je7 _ _ _) Q8E Q8E) ?_|fail);exact kQ.o):Z:=h ⟨k⟩
theorem Q6m(k:Y)(h:Wr Y->Z:=by intro kQ;(first|refine Bc (.one (.agg ⟨.plain Q8F,.plain rfl,.slice Q8F,xb⟩)) ?_|fail);exact kQ.o):Z:=h ⟨k⟩
theorem Q6t(k:Y)(h:Wr Y->Z:=by intro kQ;(first|refine Bn ?_|refine Bt () ⟨xb,?_⟩|fail);exact kQ.o):Z:=h ⟨k⟩
theorem Q6z(k:Y)(h:Wr Y->Z:=by intro kQ;(first|refine Bc (jfi (by rw[jfv _ Q8E Q8E];omega)) ?_|fail);exact kQ.o):Z:=h ⟨k⟩
theorem Q70(k:Y)(h:Wr Y->Z:=by intro kQ;(first|refine Bc (ql5 (jfi hr) rfl) ?_|refine Bc xb ?_|fail);exact kQ.o):Z:=h ⟨k⟩
theorem Q71(k:Y)(h:Wr Y->Z:=by intro kQ;(first|refine N.goto tysOK mixed ?_|fail);exact kQ.o):Z:=h ⟨k⟩
theorem Q76(h:Z:=by first|exact qhi (D:=D) (F:=F) (T:=T) (f:=f) (m:=m) (at_:=at_) (now:=now) (fine:=fine) (n:=n) (l:=l) (i0:=0) (i1:=1) (i2:=2) (i3:=3) (i4:=4) (i5:=5) (K:=7) ⟨hm,hm64,hfr,hl,hs,hb,hF,hC⟩ Q8E ⟨by rfl,by rfl,by rfl,by rfl,by rfl,by rfl,by rfl,by decide⟩|fail):Z:=h
theorem Q7b(h:Z:=by first|exact ⟨⟨λh=>Q94,yx hin.1.symm,qdv hin⟩,⟨λh=>Q94,yx hjn.1.symm,qdv hjn⟩,xb⟩|fail):Z:=h
theorem Q7i(h:Z:=by first|exact q0v (D:=s.nd g) (F:=s.fi) (T:=(hearT s.T (decF bs).1.s (decF bs).1.b (decF bs).1.q now).2) (f:=(decF bs).1) (m:=(decF bs).1.s.toNat) (at_:=at_) (now:=now) (fine:=fine) (n:=s.bn) (l:=s.bl) (i0:=7) (i1:=0) (i2:=2) (i3:=3) (i4:=4) (i5:=5) (K:=12) ⟨by omega,by omega,⟨hhd.2.1.1,hhd.2.1.2,hhd.2.2.1.1,hhd.2.2.1.2⟩,ok.bl,ok.seq,ok.boot,ok.F,ok.C2⟩ hmay.1 ⟨by rfl,by rfl,by rfl,by rfl,by rfl,by rfl,by rfl,by decide⟩|fail):Z:=h
theorem Q7q(h:Z:=by first|exact ⟨⟨_,rfl,id,nlr _,nzj⟩,⟨_,rfl,id,nlr _,nzj⟩,xb⟩|fail):Z:=h
theorem Q7w(h:Z:=by first|exact ⟨.ptr rfl,.quo,.plain rfl,.plain rfl,.plain rfl,xb⟩|fail):Z:=h
theorem Q7x(h:Z:=by first|exact ⟨⟨.inr ⟨_,rfl,rfl⟩,.inr ⟨_,rfl,rfl⟩,xb⟩,xb⟩|fail):Z:=h
theorem Q7F(h:Z:=by first|exact ⟨.inr ⟨rfl,rfl⟩,.inr ⟨rfl,rfl⟩,xb⟩|fail):Z:=h
theorem Q7M(h:Z:=by first|exact jid (D:=(s).nd g) (f:=2) (t:=3) (b:=4) (m:=5) (f':=1) (t':=2) (b':=3) (m':=4) Q8F Q8F Q8F Q8F|fail):Z:=h
theorem Q7N(h:Z:=by first|exact jid (D:=(s.hr (s.tk (hearT s.T (decF bs).1.s (decF bs).1.b (decF bs).1.q now).2 (decF bs).1 at_ now fine)).nd g) (f:=2) (t:=3) (b:=4) (m:=5) (f':=1) (t':=2) (b':=3) (m':=4) Q8F Q8F Q8F Q8F|fail):Z:=h
theorem Q7O(h:Z:=by first|exact ⟨⟨λh=>Q94,yx hin.1.symm,qdv hin⟩,xb⟩|fail):Z:=h
theorem Q7R(h:Z:=by first|exact λρ=>by rw[qbs];rfl|fail):Z:=h
theorem Q8m(h:Z:=by first|exact qc6 (sz:=1) (g:=so+k) tysOK rfl rfl Q7R rfl Q8X Q8E (by show((k:Nat):Int)<((bs.length:Nat):Int);omega) Q9C|fail):Z:=h
theorem Q8v(h:Z:=by first|exact ⟨⟨_,rfl,λh=>h,nlr _,nzj⟩,⟨_,rfl,λh=>h,nlr _,g1z .quo⟩,xb⟩|fail):Z:=h
theorem Q8y(h:Z:=by first|exact ⟨Q74,⟨λ_=>⟨rfl,nlr _⟩,nlr _,g1z (by rw[hf];exact .quo)⟩,xb⟩|fail):Z:=h
theorem Q8N(h:Z:=by rw[List.length_drop];omega):Z:=h
theorem Q8X(h:Z:=by exact rfl):Z:=h
theorem Q9C(h:Z:=by rw[yY,x6]):Z:=h
theorem Q9O(h:Z:=by rw[List.length_take];omega):Z:=h
end
end Go.Proofs

namespace Go.Proofs.YtfkngpmgcimdbaaGreat
open Go Go.RowKit Sx
def qbq(D:NdS)(l:Int)(F:Flr)(T:Tbl)(m:Nat)(f:Frm)(at_ now fine:Int):HrS:=
 if f.k=2 then jhd D l F T m f at_ now fine else if f.k=3 then jg0 D l F T m f at_ now fine else qm5 D l F T m f at_ now
def Tbl.leave(T:Tbl)(n:Int):Tbl:=match T.lives n with
 | some l=>⟨T.most,jfr T.E n,je5 T.lives n ⟨l.boot,true,l.W⟩⟩
 | none=>T
def NdS.no(D:NdS)(l:Int)(F:Flr)(T:Tbl):HrS:=⟨D.S,D.seq,l,F,T,none⟩
def jfu(D:NdS)(l:Int)(F:Flr)(T:Tbl)(m:Nat)(f:Frm)(at_ now fine:Int):HrS:=
 if f.k=5 then D.no l F (jhy D.C T f.s f.el f.st now)
 else if f.k=6 then D.no l (qby D F T f now).1 (qby D F T f now).2
 else if f.k=2\/f.k=3\/f.k=4 then (if f.ds=D.id then qbq D l F T m f at_ now fine else D.no l F T)
 else if f.k=7 then D.no l F (T.leave f.s)
 else D.no l F T
theorem qu7{s:Ses}{t m:Int}:s.resp t m=if s.b.ansP t then ⟨s.a,⟨2,s.b.fr,t,m,s.b.sp⟩⟩ else s:=rfl
variable{D:NdS}{fine n:Int}{i0 i1 i2 i3 i4 i5 K:Nat}{vs:List Value}
theorem hrN{now:Int}{r r':HrS}{h:Hp}{g:FuncId}{rh:List Nat}(e:r=r')(ho:r.o=none)(hc:qae prog g vs h (.tuple #[]) [(i0,sdC i1 now fine (.slice none 0 0)),(i1,ndC (D.to r) i2 i3 i4 i5),(i2,fiF r.F),(i3,tblC r.T),(i4,twC n r.l)] rh):CallAll prog g vs h (hrR D now fine n r' i0 i1 i2 i3 i4 i5 K):=Q4o
theorem hrY{now:Int}{r r':HrS}{x:Ou}{h:Hp}{g:FuncId}(e:r'=⟨r.S,r.seq,r.l,r.F,r.T,some x⟩)(hc:CallAll prog g vs h λv ms=>∃κ:Nat,1<=κ/\v=.tuple #[]/\ms=[(i0,sdC i1 now fine (.slice (some ⟨K,0,some 0⟩) 1 κ)),(i1,ndC (D.to r) i2 i3 i4 i5),(i2,fiF r.F),(i3,tblC r.T),(i4,twC n r.l),(K,ouR [x] κ)]):CallAll prog g vs h (hrR D now fine n r' i0 i1 i2 i3 i4 i5 K):=by
 subst e;refine qax hc λv ms hR=>?_
 obtain⟨κ,hκ,rfl,rfl⟩:=hR;exact⟨rfl,κ,hκ,rfl⟩
variable{F:Flr}{T:Tbl}{m:Nat}{l:Int}
theorem qhi{f:Frm}{at_ now:Int}(B:Rg D F f m l)(hk:f.k=2\/f.k=3\/f.k=4){h:Hp}{cm:Chunk}(O:On6 D F T now fine n l i0 i1 i2 i3 i4 i5 K h cm):
  CallAll prog 87 (hdA f at_ i0 i1) h (hrR D now fine n (qbq D l F T m f at_ now fine) i0 i1 i2 i3 i4 i5 K):=by
 unfold qbq
 by_cases q2:f.k=2
 .rw[if_pos q2];by_cases hl0:l=0
  .refine hrN ?_ rfl (q4f B q2 hl0 O);unfold jhd;rw[if_pos hl0]
  .by_cases ha:((upd D.S m ((D.S m).gotPoll at_ f.st)) m).b.ansP fine
   .refine hrY ?_ (q4g B q2 hl0 ha O);unfold jhd;rw[if_neg hl0,qu7,if_pos ha]
   .refine hrY ?_ (q4h B q2 hl0 ha O);unfold jhd;rw[if_neg hl0,qu7,if_neg ha]
 .rw[if_neg q2];by_cases q3:f.k=3
  .rw[if_pos q3];by_cases hg:(D.S m).gotRespP at_ f.t1
   .have e1:(D.S m).gotResp at_ f.t1=⟨⟨2,(D.S m).a.fr,at_,(D.S m).a.mr,(D.S m).a.sp⟩,(D.S m).b⟩:=by
     unfold Ses.gotResp Half.ans;rw[if_pos hg,if_pos hg.2]
    have e2:jg0 D l F T m f at_ now fine=jg0 D l F T m f at_ now fine:=rfl
    conv at e2=>rhs;unfold jg0;rw[if_pos hg,e1]
    rw[e2];by_cases he:(upd D.S m (⟨⟨2,(D.S m).a.fr,at_,(D.S m).a.mr,(D.S m).a.sp⟩,(D.S m).b⟩:Ses) m).a.endP fine
    .have e3:(upd D.S m (⟨⟨2,(D.S m).a.fr,at_,(D.S m).a.mr,(D.S m).a.sp⟩,(D.S m).b⟩:Ses) m).final fine=⟨Half.o,(upd D.S m (⟨⟨2,(D.S m).a.fr,at_,(D.S m).a.mr,(D.S m).a.sp⟩,(D.S m).b⟩:Ses) m).b⟩:=by
      unfold Ses.final;rw[if_pos he]
     rw[if_pos he,e3];by_cases hl0:l=0
     .rw[if_pos hl0];exact hrN rfl rfl (q4k B q3 hg he hl0 O)
     .rw[if_neg hl0];exact hrY rfl (q4l B q3 hg he hl0 O)
    .rw[if_neg he];exact hrN rfl rfl (q4j B q3 hg he O)
   .refine hrN ?_ rfl (q4i B q3 hg O);unfold jg0;rw[if_neg hg]
  .rw[if_neg q3];have q4:f.k=4:=by omega
   by_cases hg:(D.S m).gotFinalP at_ f.wn
   .refine hrN ?_ rfl (q9l B q4 hg O);have e1:(D.S m).gotFinal at_ f.wn=⟨(D.S m).a,Half.o⟩:=by unfold Ses.gotFinal;rw[if_pos hg]
    unfold qm5;rw[if_pos hg,e1]
   .refine hrN ?_ rfl (q9k B q4 hg O);unfold qm5;rw[if_neg hg]
theorem jdq{f:Frm}{at_ now:Int}(B:Rg D F f m l)(hk:f.k=5){h:Hp}{cm:Chunk}(O:On6 D F T now fine n l i0 i1 i2 i3 i4 i5 K h cm):
  qae prog 49 (hdA f at_ i0 i1) h (.tuple #[]) (m6 D now fine n i0 i1 i2 i3 i4 i5 (D.no l F (jhy D.C T f.s f.el f.st now))) [i5]:=by
 obtain⟨hm,hm64,hfr,hl,hs,hb,hF,hC⟩:=B
 refine jff O _ (hdA f at_ 0 1) func49 Q8F (call49) Q7g ?_
 repeat' (refine Ba ?_;first|refine Q4Z ?_|refine Bg (ei hk) ?_|refine Bb (q57 D T _ _ f.s f.el f.st now Q8E 1 2 3 (q0f _ _ _ _ _) _ Q8F Q8F Q8F Q8I) ?_|fail)
 refine Ba ?_
 exact jg1 rfl rfl rfl rfl rfl
theorem jdr{f:Frm}{at_ now:Int}(B:Rg D F f m l)(hk:f.k=6)(hw:0<=f.wh/\f.wh<64){h:Hp}{cm:Chunk}(O:On6 D F T now fine n l i0 i1 i2 i3 i4 i5 K h cm):
  qae prog 49 (hdA f at_ i0 i1) h (.tuple #[]) (m6 D now fine n i0 i1 i2 i3 i4 i5 (D.no l (qby D F T f now).1 (qby D F T f now).2)) [i5]:=by
 obtain⟨hm,hm64,hfr,hl,hs,hb,hF,hC⟩:=B
 refine jff O _ (hdA f at_ 0 1) func49 Q8F (call49) Q7g ?_
 repeat' (refine Ba ?_;first|refine Q4Z ?_|refine Q5t ?_|refine Bb (qwn D F T _ _ f at_ now fine hF hw 0 1 2 3 (jdk _ _ _ _) (q0f _ _ _ _ _) _ Q8F Q8F Q8F Q8F Q8I) ?_|fail)
 refine Ba ?_
 exact jg1 rfl rfl rfl rfl rfl
theorem jds{f:Frm}{at_ now:Int}(B:Rg D F f m l)(hk:f.k=1){h:Hp}{cm:Chunk}(O:On6 D F T now fine n l i0 i1 i2 i3 i4 i5 K h cm):
  qae prog 49 (hdA f at_ i0 i1) h (.tuple #[]) (m6 D now fine n i0 i1 i2 i3 i4 i5 (D.no l F T)) [i5]:=by
 obtain⟨hm,hm64,hfr,hl,hs,hb,hF,hC⟩:=B
 refine jff O _ (hdA f at_ 0 1) func49 Q8F (call49) Q7g ?_
 repeat' (refine Ba ?_;first|refine Q4Z ?_|refine Bf (by rw[hk];decide) ?_|fail)
 refine Ba ?_
 exact jg1 rfl rfl rfl rfl rfl
theorem jdt{f:Frm}{at_ now:Int}(B:Rg D F f m l)(hk:f.k=7)(lf:jf8)(hlf:T.lives f.s=some lf){h:Hp}{cm:Chunk}(O:On6 D F T now fine n l i0 i1 i2 i3 i4 i5 K h cm):
  qae prog 49 (hdA f at_ i0 i1) h (.tuple #[]) (m6 D now fine n i0 i1 i2 i3 i4 i5 (D.no l F ⟨T.most,jfr T.E f.s,je5 T.lives f.s ⟨lf.boot,true,lf.W⟩⟩)) [i5]:=by
 obtain⟨hm,hm64,hfr,hl,hs,hb,hF,hC⟩:=B
 refine jff O _ (hdA f at_ 0 1) func49 Q8F (call49) Q7g ?_
 repeat' (refine Ba ?_;first|refine Q4Z ?_|refine Q5t ?_|refine Bb (q65 T f.s Q8E lf hlf 3 _ Q8F) ?_|fail)
 refine Ba ?_
 exact jg1 rfl rfl rfl rfl rfl
theorem jdu{f:Frm}{at_ now:Int}(B:Rg D F f m l)(hk:f.k=7)(hlf:T.lives f.s=none){h:Hp}{cm:Chunk}(O:On6 D F T now fine n l i0 i1 i2 i3 i4 i5 K h cm):
  qae prog 49 (hdA f at_ i0 i1) h (.tuple #[]) (m6 D now fine n i0 i1 i2 i3 i4 i5 (D.no l F T)) [i5]:=by
 obtain⟨hm,hm64,hfr,hl,hs,hb,hF,hC⟩:=B
 refine jff O _ (hdA f at_ 0 1) func49 Q8F (call49) Q7g ?_
 repeat' (refine Ba ?_;first|refine Q4Z ?_|refine Q5t ?_|refine Bb (q66 T f.s hlf 3 _ Q8F) ?_|fail)
 refine Ba ?_
 exact jg1 rfl rfl rfl rfl rfl
theorem q9m{f:Frm}{at_ now:Int}(B:Rg D F f m l)(hk:f.k=2)(hd:¬ f.ds=D.id){h:Hp}{cm:Chunk}(O:On6 D F T now fine n l i0 i1 i2 i3 i4 i5 K h cm):
  qae prog 49 (hdA f at_ i0 i1) h (.tuple #[]) (m6 D now fine n i0 i1 i2 i3 i4 i5 (D.no l F T)) [i5]:=by
 obtain⟨hm,hm64,hfr,hl,hs,hb,hF,hC⟩:=B
 refine jff O _ (hdA f at_ 0 1) func49 Q8F (call49) Q7g ?_
 repeat' (refine Ba ?_;first|refine Q4Z ?_|refine Q5t ?_|refine Q5Z ?_|fail)
 refine Ba ?_
 exact jg1 rfl rfl rfl rfl rfl
theorem q9n{f:Frm}{at_ now:Int}(B:Rg D F f m l)(hk:f.k=3)(hd:¬ f.ds=D.id){h:Hp}{cm:Chunk}(O:On6 D F T now fine n l i0 i1 i2 i3 i4 i5 K h cm):
  qae prog 49 (hdA f at_ i0 i1) h (.tuple #[]) (m6 D now fine n i0 i1 i2 i3 i4 i5 (D.no l F T)) [i5]:=by
 obtain⟨hm,hm64,hfr,hl,hs,hb,hF,hC⟩:=B
 refine jff O _ (hdA f at_ 0 1) func49 Q8F (call49) Q7g ?_
 repeat' (refine Ba ?_;first|refine Q4Z ?_|refine Q5t ?_|refine Q5Z ?_|fail)
 refine Ba ?_
 exact jg1 rfl rfl rfl rfl rfl
theorem q9o{f:Frm}{at_ now:Int}(B:Rg D F f m l)(hk:f.k=4)(hd:¬ f.ds=D.id){h:Hp}{cm:Chunk}(O:On6 D F T now fine n l i0 i1 i2 i3 i4 i5 K h cm):
  qae prog 49 (hdA f at_ i0 i1) h (.tuple #[]) (m6 D now fine n i0 i1 i2 i3 i4 i5 (D.no l F T)) [i5]:=by
 obtain⟨hm,hm64,hfr,hl,hs,hb,hF,hC⟩:=B
 refine jff O _ (hdA f at_ 0 1) func49 Q8F (call49) Q7g ?_
 repeat' (refine Ba ?_;first|refine Q4Z ?_|refine Q5t ?_|refine Q5Z ?_|fail)
 refine Ba ?_
 exact jg1 rfl rfl rfl rfl rfl
theorem q9p{f:Frm}{at_ now:Int}(B:Rg D F f m l)(hk:f.k=2)(hd:f.ds=D.id)(ho:(qbq D l F T m f at_ now fine).o=none){h:Hp}{cm:Chunk}(O:On6 D F T now fine n l i0 i1 i2 i3 i4 i5 K h cm):
  qae prog 49 (hdA f at_ i0 i1) h (.tuple #[]) (m6 D now fine n i0 i1 i2 i3 i4 i5 (qbq D l F T m f at_ now fine)) [i5]:=by
 obtain⟨hm,hm64,hfr,hl,hs,hb,hF,hC⟩:=B
 refine jff O _ (hdA f at_ 0 1) func49 Q8F (call49) Q7g ?_
 repeat' (refine Ba ?_;first|refine Q4Z ?_|refine Q5t ?_|refine Q5Z ?_|fail)
 refine Ba ?_
 refine Bh Q76 λv ms hR=>?_
 obtain⟨rfl,hR⟩:=hR
 rw[ho] at hR
 obtain rfl:=hR
 repeat' (refine Ba ?_;first|refine Q4Z ?_|fail)
 refine Ba ?_
 exact jg1 rfl rfl rfl rfl rfl
theorem q9q{f:Frm}{at_ now:Int}(B:Rg D F f m l)(hk:f.k=2)(hd:f.ds=D.id)(x:Ou)(ho:(qbq D l F T m f at_ now fine).o=some x){h:Hp}{cm:Chunk}(O:On6 D F T now fine n l i0 i1 i2 i3 i4 i5 K h cm):
  CallAll prog 49 (hdA f at_ i0 i1) h (y6 D now fine n i0 i1 i2 i3 i4 i5 K (qbq D l F T m f at_ now fine) (x)):=by
 obtain⟨hm,hm64,hfr,hl,hs,hb,hF,hC⟩:=B
 refine jkz O _ _ 7 (hdA f at_ 0 1) func49 Q8F (call49) Q7g ?_
 repeat' (refine Ba ?_;first|refine Q4Z ?_|refine Q5t ?_|refine Q5Z ?_|fail)
 refine Ba ?_
 refine Bh Q76 λv ms hR=>?_
 obtain⟨rfl,hR⟩:=hR
 rw[ho] at hR
 obtain⟨κ,hκ,rfl⟩:=hR
 repeat' (refine Ba ?_;first|refine Q4Z ?_|fail)
 refine Ba ?_
 exact fiY hκ rfl rfl rfl rfl rfl rfl Q8I
theorem q9r{f:Frm}{at_ now:Int}(B:Rg D F f m l)(hk:f.k=3)(hd:f.ds=D.id)(ho:(qbq D l F T m f at_ now fine).o=none){h:Hp}{cm:Chunk}(O:On6 D F T now fine n l i0 i1 i2 i3 i4 i5 K h cm):
  qae prog 49 (hdA f at_ i0 i1) h (.tuple #[]) (m6 D now fine n i0 i1 i2 i3 i4 i5 (qbq D l F T m f at_ now fine)) [i5]:=by
 obtain⟨hm,hm64,hfr,hl,hs,hb,hF,hC⟩:=B
 refine jff O _ (hdA f at_ 0 1) func49 Q8F (call49) Q7g ?_
 repeat' (refine Ba ?_;first|refine Q4Z ?_|refine Q5t ?_|refine Q5Z ?_|fail)
 refine Ba ?_
 refine Bh Q76 λv ms hR=>?_
 obtain⟨rfl,hR⟩:=hR
 rw[ho] at hR
 obtain rfl:=hR
 repeat' (refine Ba ?_;first|refine Q4Z ?_|fail)
 refine Ba ?_
 exact jg1 rfl rfl rfl rfl rfl
theorem q9s{f:Frm}{at_ now:Int}(B:Rg D F f m l)(hk:f.k=3)(hd:f.ds=D.id)(x:Ou)(ho:(qbq D l F T m f at_ now fine).o=some x){h:Hp}{cm:Chunk}(O:On6 D F T now fine n l i0 i1 i2 i3 i4 i5 K h cm):
  CallAll prog 49 (hdA f at_ i0 i1) h (y6 D now fine n i0 i1 i2 i3 i4 i5 K (qbq D l F T m f at_ now fine) (x)):=by
 obtain⟨hm,hm64,hfr,hl,hs,hb,hF,hC⟩:=B
 refine jkz O _ _ 7 (hdA f at_ 0 1) func49 Q8F (call49) Q7g ?_
 repeat' (refine Ba ?_;first|refine Q4Z ?_|refine Q5t ?_|refine Q5Z ?_|fail)
 refine Ba ?_
 refine Bh Q76 λv ms hR=>?_
 obtain⟨rfl,hR⟩:=hR
 rw[ho] at hR
 obtain⟨κ,hκ,rfl⟩:=hR
 repeat' (refine Ba ?_;first|refine Q4Z ?_|fail)
 refine Ba ?_
 exact fiY hκ rfl rfl rfl rfl rfl rfl Q8I
theorem q9t{f:Frm}{at_ now:Int}(B:Rg D F f m l)(hk:f.k=4)(hd:f.ds=D.id)(ho:(qbq D l F T m f at_ now fine).o=none){h:Hp}{cm:Chunk}(O:On6 D F T now fine n l i0 i1 i2 i3 i4 i5 K h cm):
  qae prog 49 (hdA f at_ i0 i1) h (.tuple #[]) (m6 D now fine n i0 i1 i2 i3 i4 i5 (qbq D l F T m f at_ now fine)) [i5]:=by
 obtain⟨hm,hm64,hfr,hl,hs,hb,hF,hC⟩:=B
 refine jff O _ (hdA f at_ 0 1) func49 Q8F (call49) Q7g ?_
 repeat' (refine Ba ?_;first|refine Q4Z ?_|refine Q5t ?_|refine Q5Z ?_|fail)
 refine Ba ?_
 refine Bh Q76 λv ms hR=>?_
 obtain⟨rfl,hR⟩:=hR
 rw[ho] at hR
 obtain rfl:=hR
 repeat' (refine Ba ?_;first|refine Q4Z ?_|fail)
 refine Ba ?_
 exact jg1 rfl rfl rfl rfl rfl
theorem q9u{f:Frm}{at_ now:Int}(B:Rg D F f m l)(hk:f.k=4)(hd:f.ds=D.id)(x:Ou)(ho:(qbq D l F T m f at_ now fine).o=some x){h:Hp}{cm:Chunk}(O:On6 D F T now fine n l i0 i1 i2 i3 i4 i5 K h cm):
  CallAll prog 49 (hdA f at_ i0 i1) h (y6 D now fine n i0 i1 i2 i3 i4 i5 K (qbq D l F T m f at_ now fine) (x)):=by
 obtain⟨hm,hm64,hfr,hl,hs,hb,hF,hC⟩:=B
 refine jkz O _ _ 7 (hdA f at_ 0 1) func49 Q8F (call49) Q7g ?_
 repeat' (refine Ba ?_;first|refine Q4Z ?_|refine Q5t ?_|refine Q5Z ?_|fail)
 refine Ba ?_
 refine Bh Q76 λv ms hR=>?_
 obtain⟨rfl,hR⟩:=hR
 rw[ho] at hR
 obtain⟨κ,hκ,rfl⟩:=hR
 repeat' (refine Ba ?_;first|refine Q4Z ?_|fail)
 refine Ba ?_
 exact fiY hκ rfl rfl rfl rfl rfl rfl Q8I
theorem q0v{f:Frm}{at_ now:Int}(B:Rg D F f m l)(hok:f.own){h:Hp}{cm:Chunk}(O:On6 D F T now fine n l i0 i1 i2 i3 i4 i5 K h cm):
  CallAll prog 49 (hdA f at_ i0 i1) h (hrR D now fine n (jfu D l F T m f at_ now fine) i0 i1 i2 i3 i4 i5 K):=by
 have B0:=B
 obtain⟨hm,hm64,hfr,hl,hs,hb,hF,hC⟩:=B
 have B:=B0
 have rg:∀k,(k=2\/k=3\/k=4)->f.k=k->jfu D l F T m f at_ now fine=if f.ds=D.id then qbq D l F T m f at_ now fine else D.no l F T:=λk hk e=>by
  unfold jfu;rw[if_neg Q8E,if_neg Q8E,if_pos Q8E]
 by_cases k5:f.k=5
 .refine hrN ?_ rfl (jdq B k5 O);unfold jfu;rw[if_pos k5]
 by_cases k6:f.k=6
 .have hw:0<=f.wh/\f.wh<64:=by
   unfold Frm.own at hok;rw[if_neg Q8E,if_neg Q8E,if_neg Q8E,if_neg Q8E,if_neg Q8E,if_neg Q8E,if_pos k6] at hok;exact hok.1
  refine hrN ?_ rfl (jdr B k6 hw O);unfold jfu;rw[if_neg k5,if_pos k6]
 by_cases k7:f.k=7
 .cases hlf:T.lives f.s with
  | some lf=>
   refine hrN ?_ rfl (jdt B k7 lf hlf O);exact Q4L
  | none=>
   refine hrN ?_ rfl (jdu B k7 hlf O);exact Q4L
 by_cases k1:f.k=1
 .refine hrN ?_ rfl (jds B k1 O);unfold jfu;rw[if_neg k5,if_neg k6,if_neg Q8E,if_neg k7]
 by_cases k2:f.k=2
 .rw[rg 2 Q8E k2];by_cases hd:f.ds=D.id
  .rw[if_pos hd];cases ho:(qbq D l F T m f at_ now fine).o with
   | none=>exact hrN rfl ho (q9p B k2 hd ho O)
   | some x=>exact hrY (by rw[<-ho]) (q9q B k2 hd x ho O)
  .rw[if_neg hd];exact hrN rfl rfl (q9m B k2 hd O)
 by_cases k3:f.k=3
 .rw[rg 3 Q8E k3];by_cases hd:f.ds=D.id
  .rw[if_pos hd];cases ho:(qbq D l F T m f at_ now fine).o with
   | none=>exact hrN rfl ho (q9r B k3 hd ho O)
   | some x=>exact hrY (by rw[<-ho]) (q9s B k3 hd x ho O)
  .rw[if_neg hd];exact hrN rfl rfl (q9n B k3 hd O)
 by_cases k4:f.k=4
 .rw[rg 4 Q8E k4];by_cases hd:f.ds=D.id
  .rw[if_pos hd];cases ho:(qbq D l F T m f at_ now fine).o with
   | none=>exact hrN rfl ho (q9t B k4 hd ho O)
   | some x=>exact hrY (by rw[<-ho]) (q9u B k4 hd x ho O)
  .rw[if_neg hd];exact hrN rfl rfl (q9o B k4 hd O)
 .exfalso;unfold Frm.own at hok;rw[if_neg k1,if_neg k7,if_neg k2,if_neg k3,if_neg k4,if_neg k5,if_neg k6] at hok;exact hok
end Go.Proofs.YtfkngpmgcimdbaaGreat


namespace Go.Proofs.YtfkngpmgcimdbaaGreat.Sx
open Go Go.RowKit
def sh2(l:Nat):Nat:=match l with
 | 0=>0
 | l+1=>l+2
theorem jdv(l:Nat):sh2 l≠1:=by cases l<;>simp[sh2]
theorem qsx{B:Type}{ok:B->Prop}{h:B->Hp}{i j:Nat}{c d c2 e2 d2:Chunk}(o:B->Hp)(ix:List (Nat×Nat))(hix:∀l i,(l,i)∈ix->i=sh2 l)(hn2:e2.n=0)(h1:∀β,(o β)[1]?=some (some e2))
  (hre:∀β,ok β->∀(l:Nat)(dl:Chunk),(h β)[l]?=some (some dl)->∃d':Chunk,(o β)[sh2 l]?=some (some d')/\d'.n=dl.n/\d'.x=dl.x/\∀k,k<d'.n->Re1 ix (d'.f k) (dl.f k))
  (hre':∀β,ok β->∀(k:Nat)(d':Chunk),(o β)[k]?=some (some d')->k=1\/∃l,k=sh2 l/\Fil (h β) l):Opens [⟨i,c,packC ok h,d⟩,⟨j,c2,e2,d2⟩] ok o:=λX ρ w T H=>by
 obtain⟨S,E⟩:=H.ext
 have g0:(partH [⟨i,c,packC ok h,d⟩,⟨j,c2,e2,d2⟩])[0]?=some (some (packC ok h)):=rfl
 have g1:(partH [⟨i,c,packC ok h,d⟩,⟨j,c2,e2,d2⟩])[1]?=some (some e2):=rfl
 have two:∀(k:Nat)(e:Chunk),(partH [⟨i,c,packC ok h,d⟩,⟨j,c2,e2,d2⟩])[k]?=some (some e)->k=0\/k=1:=λk e hk=>by
  match k,hk with
  | 0,_=>exact .inl rfl
  | 1,_=>exact .inr rfl
  | k+2,hk=>simp[partH] at hk
 obtain⟨_,β,hβ,ρp,Tp,e0,hf,K⟩:=E.inv 0 _ g0
 have n0:X.n0=2:=T.n0
 let un:Nat->Nat:=λk=>match k with
  | 0=>0
  | k+1=>k
 have un_sh:∀l,un (sh2 l)=l:=λl=>by cases l<;>rfl
 let ρ':Nat->Nat×Nat:=λk=>if k=1 then ρ 1 else ρp (un k)
 have ρ1:ρ' 1=ρ 1:=if_pos rfl
 have ρs:∀l,ρ' (sh2 l)=ρp l:=λl=>by
  show(if sh2 l=1 then ρ 1 else ρp (un (sh2 l)))=_;rw[if_neg (jdv l),un_sh]
 have ρ0:ρ' 0=ρ 0:=(ρs 0).trans e0
 have fil0:Fil (o β) 0:=by
  obtain⟨dl,hdl⟩:=hf;obtain⟨d',hd',_⟩:=hre β hβ 0 dl hdl;exact⟨d',hd'⟩
 have filS:∀l,Fil (h β) l->Fil (o β) (sh2 l):=λl ⟨dl,hdl⟩=>by
  obtain⟨d',hd',_⟩:=hre β hβ l dl hdl;exact⟨d',hd'⟩
 have old:∀(k:Nat)(d':Chunk),(o β)[k]?=some (some d')->k≠1->∃(l:Nat)(dl:Chunk),k=sh2 l/\(h β)[l]?=some (some dl)/\d'.n=dl.n/\d'.x=dl.x/\∀q,q<d'.n->Re1 ix (d'.f q) (dl.f q):=λk d' hk hne=>by
  rcases hre' β hβ k d' hk with rfl|⟨l,rfl,dl,hdl⟩
  .exact absurd rfl hne
  .obtain⟨d2,hd2,r1,r2,r3⟩:=hre β hβ l dl hdl;rw[hk] at hd2;obtain rfl:d'=d2:=by simpa using hd2
   exact⟨l,dl,rfl,hdl,r1,r2,r3⟩
 refine⟨β,hβ,ρ',λk hk=>?_,λk hk=>?_,?_⟩
 .obtain⟨e,he⟩:=hk;rcases two k e he with rfl|rfl
  .exact ρ0
  .exact ρ1
 .obtain⟨e,he⟩:=hk;rcases two k e he with rfl|rfl
  .exact fil0
  .exact⟨_,h1 β⟩
 .refine H.redo (T:=λk b=>Tp (un k) b) E (λk=>k=0) (λk=>k≠1) (S 0) (λb hb=>⟨0,_,rfl,g0,.inr hb⟩) (λb hb=>(E.mine 0 _ b g0 hb).2.2) (λk hk=>?_) (λk e hk hA=>?_) (λk e hk hA=>?_) (λk e l f hk hA hl hB hne=>?_)
  .rw[n0] at hk;have:k=0\/k=1:=by omega
   rcases this with rfl|rfl
   .exact⟨fil0,ρ0⟩
   .exact⟨⟨_,h1 β⟩,ρ1⟩
  .obtain rfl:k=1:=Decidable.not_not.1 hA;rw[h1 β] at hk;obtain rfl:e2=e:=by simpa using hk
   exact⟨by decide,ρ1,g1,λq hq=>by rw[hn2] at hq;exact absurd hq (xX q)⟩
  .obtain⟨l,dl,rfl,hdl,r1,r2,r3⟩:=old k e hk hA;have hu:=un_sh l;refine⟨by rw[ρs];exact K.blk l dl hdl,λq hq=>?_,λ_ q hq=>by rw[ρs];exact K.own l dl hdl q Q8E,?_,λb hb=>?_⟩
   .obtain⟨x,hx,hxd⟩:=K.cell l dl hdl q Q8E;rw[ρs];refine⟨x,hx,λr hr=>?_⟩;rw[(r3 q hq).den (r:=r) (r':=λk=>r (sh2 k)) (λa b hab=>by rw[hix a b hab])];exact hxd (λk=>r (sh2 k)) λk hk=>(hr _ (filS k hk)).trans (ρs k)
   .rw[r2,ρs];have:(λb=>Tp (un (sh2 l)) b)=Tp l:=by rw[hu]
    rw[this];exact K.inv l dl hdl
   .rw[hu] at hb;obtain⟨q1,q2⟩:=K.foot l dl b hdl hb;exact⟨q1,by rw[r1,ρs];exact q2⟩
  .obtain⟨a,da,rfl,hda,_⟩:=old k e hk hA;obtain⟨b,db,rfl,hdb,_⟩:=old l f hl hB;have hab:a≠b:=λe=>hne (by rw[e])
   obtain⟨q1,q2⟩:=K.sep a da b db hda hdb hab;exact⟨λ_=>by rw[ρs,ρs];exact q1,λx hx=>by rw[un_sh] at hx ⊢;rw[ρs];exact q2 x hx⟩
end Go.Proofs.YtfkngpmgcimdbaaGreat.Sx


namespace Go.Proofs.YtfkngpmgcimdbaaGreat
open Go Go.RowKit Sx
theorem g1z{p:Nat->Prop}(h:p 0):∀j,j<1->p j:=by simp_all
def qj9(s:Sl)(p q:Nat):Sl:=⟨s.b,s.o+(if s.c=p then 0 else p),q-p,s.c-p,none⟩
structure OldB(W:World)(s:Sl)(bs:List Int):Prop where
 sp:s.sp=none
 n:bs.length=s.n
 c:s.n<=s.c
 u8:∀j,j<bs.length->0<=bs.getD j 0/\bs.getD j 0<256
 cell:∀j,j<bs.length->W.cell? ⟨s.b,s.o+j,none⟩=some (.int .u8 (bs.getD j 0))
variable{W:World}{bs:List Int}
theorem OldB.part{s:Sl}(h:OldB W s bs){p q:Nat}(hpq:p<=q)(hq:q<=bs.length):OldB W (qj9 s p q) ((bs.take q).drop p):=by
 have hl:((bs.take q).drop p).length=q-p:=by rw[List.length_drop,List.length_take,Nat.min_eq_left hq]
 have hg:∀j,j<q-p->((bs.take q).drop p).getD j 0=bs.getD (p+j) 0:=λj hj=>by
  grind
 have hn:=h.n;have hc:=h.c;refine⟨rfl,hl,by show q-p<=s.c-p;omega,λj hj=>?_,λj hj=>?_⟩
 .rw[hl] at hj;rw[hg j hj];exact h.u8 _ Q8E
 .rw[hl] at hj;rw[hg j hj];have hne:s.c≠p:=by omega
  show W.cell? ⟨s.b,s.o+(if s.c=p then 0 else p)+j,none⟩=_;rw[if_neg hne,show s.o+p+j=s.o+(p+j) by omega];exact h.cell _ Q8E
variable{st:St}{t:TypeId}{i:Nat}{R:List Rw}
theorem qcn[ZW]{o:Oper}{x:Operand}{b f:Nat}(hz:ZW.z=some W){v:Value}(ho:o.op=.load t x)(hx:EvTo x st (.pointer (some ⟨b,f,none⟩)))(hi:st.h[i]?=some (some (rvC R)))
  (ht:jeq tys t λ_ d=>qd2 d=false) (hp:qbi v=true) (hk:W.cell? ⟨b,f,none⟩=some v):OKs prog o st v [] [i]:=λst₂ hs hh _=>
 qay λX ρ a w Rl=>by
  have hi2:st₂.h[i]?=some (some (rvC R)):=(hh i Q8P).trans hi;have hx':=qot (hs x Q8L _ hx) rfl Rl;obtain⟨ti,d,_,h2,hd⟩:=qao tysOK ht;obtain⟨S,E⟩:=Rl.heap.ext;have V:RvOK R (ρ i) (S i) w:=E.inv i _ hi2;have hy:w.cell? ⟨b,f,none⟩=some v:=by rw[<-hk];exact qeo ((V.base W hz).2.2 b (qgv hk)).2
  exact Q44
theorem qbz{o:Oper}{x:Operand}{lo hi:Option Operand}{vl vh:Option Value}{b f l c p q:Nat}(f2:Nat)(ho:o.op=.slice 37 x lo hi none)(hx:EvTo x st (uV (some ⟨b,f,l,c,none⟩)))(hl:OptTo st lo vl)(hh:OptTo st hi vh)
  (hq:Bnd vh l c q) (hp:Bnd vl 0 q p) (hf:f2=f+(if c=p then 0 else p)):OKs prog o st (uV (some ⟨b,f2,q-p,c-p,none⟩)) [] []:=by
 obtain⟨ei,z,h1,h2,h3,h4,h5⟩:=q0k
 have:=q0i (P:=prog) ho hx hl hh underlying37 h1 hq hp
 rw[h2,x6] at this
 rw[hf]
 exact this
abbrev rdC(s:Sl):Chunk:=⟨true,1,[(0,1,uV (some s))]⟩
def jg2(n c:Int):Int:=IntKind.i64.wrap (((BitVec.ofInt IntKind.i64.bits (IntKind.i64.wrap (n*2^8))) ||| BitVec.ofInt IntKind.i64.bits c).toNat:Nat)
def takeN(l:List Int):Int:=l.foldl jg2 0
theorem qwq(bs:List Int)(k:Nat)(h:k<bs.length):takeN (bs.take (k+1))=jg2 (takeN (bs.take k)) (bs.getD k 0):=by
 grind[takeN,List.take_add_one]
variable{ix:List (Nat×Nat)}
theorem jo5{s:Sl}:ChunkReLe ix (rdC s) (rdC s):=⟨id,nlr _,g1z .quo⟩
variable{ps:Pz}
theorem jfq[ZW](W:World)(hz:ZW.z=some W)(R:List Rw)(s:Sl)(bs:List Int)(hs:OldB W s bs)(w:Nat)(hw:w<=bs.length)(hl:bs.length<=1000)(i k:Nat)(hik:i≠k)(h:Hp)(hi:h[i]?=some (some (rvC R)))(hk:h[k]?=some (some (⟨true,1,ps⟩:Chunk)))(hf:(⟨true,1,ps⟩:Chunk).f 0=uV (some s)):
  qae prog 77 [xd k,xc (w:Nat)] h (xc (takeN (bs.take w))) [(i,rvC R),(k,rdC (qj9 s w s.n))] []:=by
 obtain⟨sb,so,sn,sc,sp⟩:=s
 obtain⟨hsp,hn,hc,hu,hcl⟩:=hs
 simp only at hsp hn hc hcl
 subst hsp hn
 refine qaq (G:=tys) (λ_:Unit=>True) (λ_=>_) [⟨i,rvC R,rvC R,rvC R⟩,⟨k,_,rdC ⟨sb,so,bs.length,sc,none⟩,rdC (qj9 ⟨sb,so,bs.length,sc,none⟩ w bs.length)⟩] [] [xd 1,xc (w:Nat)] tysOK mixed func77 Q8F (call77) ⟨hi,hk,xb⟩ Q8y (by simp[Apart,hik]) ⟨.inr ⟨rfl,rfl⟩,.inl rfl,xb⟩ xb Q79 Opens.same ?_
 rintro⟨⟩ -
 repeat' (refine Ba ?_;first|refine Q4Z ?_|refine Bm (qbz (p:=0) (q:=w) so rfl rfl rfl ⟨_,_,rfl,rfl⟩ ⟨rfl,by show w<=sc;omega⟩ rfl (by split<;>simp)) ?_|refine Q5P ?_|fail)
 refine Ba ?_
 refine Bq (α:=Nat) (λj=>j<=w) (λj=>w-j) (λj=>[(5,xc (takeN (bs.take j))),(15,xc (j:Int))]) (λj=>[]) 0 [(0,0),(1,1)] (xn _) ?_ ?_
 .exact Q1M
 intro j hj
 have hj:j<=w:=hj
 by_cases hlt:j<w
 .have st:=qwq bs j Q8E;generalize takeN (bs.take j)=n0 at st ⊢;have ek:((j+1:Nat):Int)=IntKind.i64.wrap ((j:Int)+1):=by rw[jep _ Q8E Q8E];rfl
  have eS:jg2 n0 (bs.getD j 0)=IntKind.i64.wrap (((BitVec.ofInt IntKind.i64.bits (IntKind.i64.wrap (n0*2^sh 8 IntKind.i64))) ||| BitVec.ofInt IntKind.i64.bits (IntKind.i64.wrap (bs.getD j 0))).toNat:Nat):=by
   have eb:IntKind.i64.wrap (bs.getD j 0)=bs.getD j 0:=by have:=hu j Q8E;exact jep _ Q8E Q8E
   rw[eb];rfl
  have eb:IntKind.i64.wrap (bs.getD j 0)=bs.getD j 0:=by have:=hu j Q8E;exact jep _ Q8E Q8E
  repeat' (refine Ba ?_;first|refine Q4Z ?_|refine Bg (xf (show((j:Nat):Int)<((w-0:Nat):Int) by omega)) ?_|refine Bm (qc6 (sz:=1) (g:=so+j) tysOK rfl rfl Q7R rfl Q8X Q8E (by show((j:Nat):Int)<((w-0:Nat):Int);omega) Q9C) ?_|refine Bm (qcn (i:=0) (R:=R) (v:=.int .u8 (bs.getD j 0)) hz rfl rfl Q8F Q8X rfl (hcl j Q8E)) ?_|fail)
  refine Ba ?_;refine Bk (α:=Nat) (j+1) [(0,0),(1,1)] ⟨by show j+1<=w;omega,by show w-(j+1)<w-j;omega⟩ ?_;rw[st];exact Q1M
 .obtain rfl:j=w:=by omega
  repeat' (refine Ba ?_;first|refine Q4Z ?_|refine Bf (xe (show ¬ ((j:Nat):Int)<((j-0:Nat):Int) by omega)) ?_|refine Bm (qbz (p:=j) (q:=bs.length) (so+(if sc=j then 0 else j)) rfl rfl ⟨_,_,rfl,rfl⟩ rfl rfl ⟨rfl,by omega⟩ rfl) ?_|fail)
  refine Ba ?_;refine Bn ?_;repeat' (refine Ba ?_;first|refine Q4Z ?_|refine Q5x ?_|refine Bc Q8v ?_|refine Bc xb ?_|refine Bc ⟨⟨.inr ⟨_,rfl,rfl⟩,.inl rfl,xb⟩,xb⟩ ?_|exact Be|fail)
theorem qu8[ZW](W:World)(hz:ZW.z=some W)(R:List Rw)(s:Sl)(bs:List Int)(hs:OldB W s bs)(hw:4<=bs.length)(hl:bs.length<=1000)(i k:Nat)(hik:i≠k)(h:Hp)(hi:h[i]?=some (some (rvC R)))(hk:h[k]?=some (some (⟨true,1,ps⟩:Chunk)))(hf:(⟨true,1,ps⟩:Chunk).f 0=uV (some s)):
  qae prog 78 [xd k] h (xc (IntKind.i64.wrap (IntKind.i32.wrap (takeN (bs.take 4))))) [(i,rvC R),(k,rdC (qj9 s 4 s.n))] []:=by
 refine qaq (G:=tys) (λ_:Unit=>True) (λ_=>_) [⟨i,rvC R,rvC R,rvC R⟩,⟨k,_,rdC s,rdC (qj9 s 4 s.n)⟩] [] [xd 1] tysOK mixed func78 Q8F (call78) ⟨hi,hk,xb⟩ Q8y (by simp[Apart,hik]) ⟨.inr ⟨rfl,rfl⟩,.inl rfl,xb⟩ xb ⟨.ptr rfl,xb⟩ Opens.same ?_
 rintro⟨⟩ -
 repeat' (refine Ba ?_;first|refine Q4Z ?_|refine Bb (jfq W hz R s bs hs 4 hw hl 0 1 Q8I _ Q8F Q8F rfl) ?_|fail)
 refine Ba ?_
 refine Bn ?_
 repeat' (refine Ba ?_;first|refine Q4Z ?_|refine Q5x ?_|refine Bc Q8v ?_|refine Bc xb ?_|refine Bc ⟨⟨.inr ⟨_,rfl,rfl⟩,.inl rfl,xb⟩,xb⟩ ?_|exact Be|fail)
theorem jdw[ZW](W:World)(hz:ZW.z=some W)(rt:Rw)(R:List Rw)(s:Sl)(bs:List Int)(hs:OldB W s bs)(hT:TabOK (some rt) (jhz 256))(hl:bs.length<=1000)(ht:rt∈R)(i:Nat)(h:Hp)(hi:h[i]?=some (some (rvC R))):
  qae prog 94 [uV (some rt.sl),uV (some s)] h (.int .u32 (sumN bs)) [(i,rvC R)] []:=by
 obtain⟨sb,so,sn,sc,sp⟩:=s
 obtain⟨hsp,hn,hc,hu,hcl⟩:=hs
 simp only at hsp hn hc hcl
 subst hsp hn
 refine qaq (G:=tys) (λ_:Unit=>True) (λ_=>_) [⟨i,rvC R,rvC R,rvC R⟩] [] [uV (some rt.sl),uV (some ⟨sb,so,bs.length,sc,none⟩)] tysOK mixed func94 Q8F (call94) ⟨hi,xb⟩ Q7e Q8K Q77 xb ⟨.quo,.quo,xb⟩ Opens.same ?_
 rintro⟨⟩ -
 have htn:rt.n=256:=by have:=hT.n;rw[qov] at this;exact this
 have hTx:rt.xs=(jhz 256).map (Value.int .u32):=hT.xs
 have hlt:((uN (some rt.sl):Nat):Int)=256:=by show((rt.n:Nat):Int)=_;rw[htn];rfl
 repeat' (refine Ba ?_;first|refine Q4Z ?_|refine Q5P ?_|fail)
 refine Ba ?_
 refine Bq (α:=Nat) (λk=>k<=bs.length) (λk=>bs.length-k) (λk=>[(5,.int .u32 (sumK bs k)),(11,xc (k:Int))]) (λk=>[]) 0 [(0,0)] (xn _) ?_ ?_
 .exact Q0v
 intro k hk
 have hk:k<=bs.length:=hk
 by_cases hkl:k<bs.length
 .have hgc:bs[k]?=some (bs.getD k 0):=by rw[xT,xt hkl];rfl
  have hs:=qlw hgc;generalize sumK bs k=s0 at hs;obtain⟨x0,x1⟩:=qsu (IntKind.u8.wrap s0) (bs.getD k 0);have es:sumK bs (k+1)=jfp (jgy s0 8) (jim (xor8 (IntKind.u8.wrap s0) (bs.getD k 0)).toNat):=hs;have ex:IntKind.i64.wrap (xor8 (IntKind.u8.wrap s0) (bs.getD k 0))=(xor8 (IntKind.u8.wrap s0) (bs.getD k 0)):=jep _ Q8E Q8E;have hxe:(jhz 256)[(xor8 (IntKind.u8.wrap s0) (bs.getD k 0)).toNat]?=some (jim (xor8 (IntKind.u8.wrap s0) (bs.getD k 0)).toNat):=by
   unfold jhz;rw[yl,List.getElem?_range Q8E];rfl
  have ek:((k+1:Nat):Int)=IntKind.i64.wrap ((k:Int)+1):=by rw[jep _ Q8E Q8E];rfl
  repeat' (refine Ba ?_;first|refine Q4Z ?_|refine Bg (xf (show((k:Nat):Int)<((bs.length:Nat):Int) by omega)) ?_|refine Bg (xf (show _<_ by rw[hlt,ex];exact x1)) ?_|refine Bm (qca rfl rfl ⟨_,rfl,_,underlying87⟩) ?_|refine Bm Q8m ?_|refine Bm (qcn (i:=0) (R:=R) (v:=.int .u8 (bs.getD k 0)) hz rfl rfl Q8F Q8X rfl (hcl k Q8E)) ?_|refine Bm (qc6 (sz:=1) (g:=rt.o+(xor8 (IntKind.u8.wrap s0) (bs.getD k 0)).toNat) tysOK rfl rfl Q7R rfl Q8X (by rw[ex];omega) (by rw[ex];show(xor8 (IntKind.u8.wrap s0) (bs.getD k 0))<((rt.n:Nat):Int);omega) (by rw[ex,x6])) ?_|refine Bm (qu5 (i:=0) rt (v:=.int .u32 (jim (xor8 (IntKind.u8.wrap s0) (bs.getD k 0)).toNat)) (xor8 (IntKind.u8.wrap s0) (bs.getD k 0)).toNat tysOK rfl rfl rfl Q8F ht Q8X rfl (by rw[hTx,yl,hxe];rfl)) ?_|fail)
  exact Q34
 .obtain rfl:k=bs.length:=by omega
  repeat' (refine Ba ?_;first|refine Q4Z ?_|refine Bf (xe (show ¬ ((bs.length:Nat):Int)<((bs.length:Nat):Int) by omega)) ?_|refine N.notU ?_|refine Bn ?_|refine Q5x ?_|refine Bc Q7j ?_|refine Q5c ?_|exact Be|fail)
theorem jo6[ZW](W:World)(hz:ZW.z=some W)(R:List Rw)(s:Sl)(bs:List Int)(hs:OldB W s bs)(hl:bs.length<=1000)(i:Nat)(h:Hp)(hi:h[i]?=some (some (rvC R))):
  CallAll prog 61 [uV (some s)] h (λv ms=>v=.int .u32 (sumN bs)/\ms=[(i,rvC R)]):=by
 have hil:=(xg.1 hi).1
 have key:=qa8 (G:=tys) (h:=h) (vs:=[uV (some s)]) (λ_:Unit=>True) (λ_=>_) (α:=Rw) (λκ=>True) (λκ=>.int .u32 (sumN bs)) [⟨i,rvC R,rvC R,rvC R⟩] (λκ=>[rvC (κ::R)]) (λκ=>[]) [uV (some s)] tysOK mixed func61 Q8F (call61) ⟨hi,xb⟩ Q7e (λκ _=>Q7e) Q8K Q77 (λκ _=>trivial) ⟨.quo,xb⟩ Opens.same ?_
 .refine CallAll.soft key λv ms hR=>?_
  obtain⟨κ,_,rfl,rfl⟩:=hR;refine⟨i,rvX (κ::R),rvX R,true,0,[],[(i,rvC R)],?_,q87 (List.sublist_cons_self ..),?_,rfl,rfl⟩
  .show(h.set i _)[i]?=_;rw[xG hil]
  .show(h.set i _).set i _=h.set i _;rw[yX]
 rintro⟨⟩ -
 repeat' (refine Ba ?_;first|refine Q4Z ?_|fail)
 refine Ba ?_
 refine Bh (jde R 0 _ Q8F) λv ms hR=>?_
 obtain⟨rt,hT,rfl,rfl⟩:=hR
 repeat' (refine Ba ?_;first|refine Q4Z ?_|refine Bb (jdw W hz rt (rt::R) s bs hs hT hl (zl ..) 0 _ Q8F) ?_|refine Bn ?_|refine Bt rt ⟨xb,?_⟩|refine Q5x ?_|refine Bc Q7j ?_|refine Q5c ?_|exact Be|fail)
variable{vs:List Value}
theorem qwr{P:Program}{g:FuncId}{h:Hp}{v:Value}{ms:Mz}(hc:∀h₂:Hp,(∀m∈ms,h₂[m.1]?=h[m.1]?)->CallAll P g vs h₂ λv' ms'=>v'=v/\ms'=ms):qae P g vs h v ms []:=λh₂ _ hm X ρ w xs H hx=>by
 rcases hc h₂ hm X ρ w xs H hx with ⟨x,w',h1,v',ms',ρ',⟨rfl,rfl⟩,h2⟩|⟨h1,h2⟩
 .exact .inl ⟨x,w',h1,ρ',h2⟩
 .refine .inr ⟨h1,h2.mono ?_⟩;rintro e w' ⟨x,he,v',ms',ρ',⟨rfl,rfl⟩,h3⟩;exact⟨x,he,ρ',h3⟩
theorem jo7[ZW](W:World)(hz:ZW.z=some W)(R:List Rw)(s:Sl)(bs:List Int)(hs:OldB W s bs)(hl:bs.length<=1000)(i:Nat)(h:Hp)(hi:h[i]?=some (some (rvC R))):
  qae prog 61 [uV (some s)] h (.int .u32 (sumN bs)) [(i,rvC R)] []:=
 qwr λh₂ hm=>jo6 W hz R s bs hs hl i h₂ ((hm _ (yt.2 rfl)).trans hi)
theorem OldB.dropw{s:Sl}(h:OldB W s bs)(p:Nat)(hp:p<=bs.length):OldB W (qj9 s p s.n) (bs.drop p):=by
 have:=h.part (p:=p) (q:=bs.length) hp (nlr _);rw[List.take_length,h.n] at this;exact this
theorem OldB.takew{s:Sl}(h:OldB W s bs)(q:Nat)(hq:q<=bs.length):OldB W (qj9 s 0 q) (bs.take q):=by
 have:=h.part (p:=0) (q:=q) (xn _) hq;exact this
theorem qjt[ZW]{o:Oper}{d:TypeId}{x:Operand}(hz:ZW.z=some W){s:Sl}(ho:o.op=.convert t d x)(hx:EvTo x st (uV (some s)))(hi:st.h[i]?=some (some (rvC R)))
  (ht:jeq tys t λ_ sd=>match sd with|.slice e=>jeq tys e λ_ ed=>ed=.int .u8|_=>False) (hd:jeq tys d λ_ dd=>dd=.string) (hs:OldB W s bs):OKs prog o st (.string (strOfNums bs)) [] [i]:=λst₂ hs2 hh _=>
 qay λX ρ a w Rl=>by
  have hi2:st₂.h[i]?=some (some (rvC R)):=(hh i Q8P).trans hi;have hx':a.eval x=uR (some s):=by rw[<-((hs2 x Q8L _ hx).den Rl).self,qbs]
  obtain⟨_,sd,_,h1,ht⟩:=qao tysOK ht;obtain⟨_,dd,_,h2,rfl⟩:=qao tysOK hd;obtain⟨S,E⟩:=Rl.heap.ext;have V:RvOK R (ρ i) (S i) w:=E.inv i _ hi2;obtain⟨qb,qo,qn,qc,sp⟩:=s;obtain⟨hsp,hn,hc,hu,hcl⟩:=hs;simp only at hsp hn hc hcl;subst hsp;have hcells:∀j,j<bs.length->w.cell? ⟨qb,qo+j,none⟩=some (.int .u8 (bs.getD j 0)):=λj hj=>by
   have h:=hcl j hj;rw[<-h];exact qeo ((V.base W hz).2.2 qb (qgv h)).2
  split at ht
  .obtain⟨_,ed,_,h3,rfl⟩:=qao tysOK ht;refine⟨_,?_,Den.plain rfl⟩;simp only[execOp,ho,hx',Sem.run_bind,Sem.run_pure,Result.andThen_ok];rw[show uR (some ⟨qb,qo,qn,qc,none⟩)=.slice (some ⟨qb,qo,none⟩) qn qc from rfl,run_convert_bytes_arg w t _ h1 h3 qb qo qn qc bs hn (λj hj=>hcells j Q8E) d h2];rfl
  .exact ht.elim
def jjj(bs:List Int):Frm:=⟨takeN ((bs.drop 4).take 1),takeN ((bs.drop 5).take 1),takeN ((bs.drop 8).take 2),takeN ((bs.drop 10).take 2),takeN ((bs.drop 12).take 8),takeN ((bs.drop 6).take 1),takeN ((bs.drop 20).take 8),takeN ((bs.drop 28).take 8),takeN ((bs.drop 7).take 1),takeN ((bs.drop 36).take 8),IntKind.i64.wrap (IntKind.i32.wrap (takeN ((bs.drop 44).take 4))),IntKind.i64.wrap (IntKind.i32.wrap (takeN ((bs.drop 48).take 4))),takeN ((bs.drop 52).take 8),takeN ((bs.drop 60).take 8),takeN ((bs.drop 68).take 8)⟩
def jo8:ByteArray:=⟨#[97,108,105,49]⟩
def decF(bs:List Int):Frm×Int:=
 if bs.length<80 then (Frm.o,4) else if 80<bs.length then (Frm.o,5) else if strOfNums (bs.take 4)≠jo8 then (Frm.o,5)
 else if takeN ((bs.drop 76).take 4)≠IntKind.i64.wrap (sumN (bs.take 76)) then (Frm.o,6) else if (jjj bs).may then (jjj bs,0) else (Frm.o,5)
abbrev decV(r:Frm×Int):Value:=.tuple #[fmV r.1,xc r.2]
theorem OldB.nx{s:Sl}{p w:Nat}(h:OldB W s (bs.drop p))(hw:p+w<=bs.length):OldB W (qj9 s w s.n) (bs.drop (p+w)):=by
 have:=h.dropw w Q8N;simp_all
theorem dcN{p:Prop}[Decidable p](h:¬ p):(!decide p)=true:=by simp_all
theorem dcY{p:Prop}[Decidable p](h:p):(!decide p)=false:=by simp_all
theorem qm6(x y:Operand)(a b:ByteArray):BinIs prog .neq 9 x y (.string a) (.string b) (.bool (!decide (a=b))):=⟨rfl,rfl,rfl,λw=>by
 by_cases h:a=b
 .subst h;rw[xf rfl];go_simp
 .rw[xe h];go_simp;rw[ByteArray.toList_eq,ByteArray.toList_eq];exact λe=>h (ByteArray.ext (xF.1 e))⟩
theorem q9v[ZW](W:World)(hz:ZW.z=some W)(R:List Rw)(s:Sl)(bs:List Int)(hs:OldB W s bs)(i:Nat)(h:Hp)(hi:h[i]?=some (some (rvC R))):
  CallAll prog 46 [uV (some s)] h (λv ms=>v=decV (decF bs)/\ms=[(i,rvC R)]):=by
 obtain⟨sb,so,sn,sc,sp⟩:=s
 obtain rfl:sp=none:=hs.sp
 have hn:bs.length=sn:=hs.n
 have hc:sn<=sc:=hs.c
 have key:=qa8 (G:=tys) (h:=h) (vs:=[uV (some ⟨sb,so,sn,sc,none⟩)]) (λ_:Unit=>True) (λ_=>_) (α:=Unit) (λ_=>True) (λ_=>decV (decF bs)) [⟨i,rvC R,rvC R,rvC R⟩] (λ_=>[rvC R]) (λ_=>[]) [uV (some ⟨sb,so,sn,sc,none⟩)] tysOK mixed func46 Q8F (call46) ⟨hi,xb⟩ Q7e (λκ _=>Q7e) Q8K Q77 (λκ _=>trivial) ⟨.quo,xb⟩ Opens.same ?_
 .exact Q4B
 rintro⟨⟩ -
 by_cases h1:bs.length<80
 .rw[show decF bs=(Frm.o,4) from if_pos h1];exact Q0r
 by_cases h2:80<bs.length
 .exact Q4C
 have h80:sn=80:=by omega
 by_cases he:strOfNums (bs.take 4)=jo8
 rotate_left
 .exact Q0U
 repeat' (refine Ba ?_;first|refine Q4Z ?_|refine Q5n ?_|refine Bf (dcY he) ?_|refine Bm (qbz (p:=76) (q:=sn) (so+(if sc=76 then 0 else 76)) rfl rfl ⟨_,_,rfl,⟨rfl,rfl⟩⟩ rfl rfl ⟨rfl,by omega⟩ rfl) ?_|refine Bb (jfq W hz R _ (bs.drop 76) (hs.dropw 76 Q8E) 4 Q8N Q8N 0 _ Q8I _ Q8F Q8F Q8F) ?_|refine Bm (qbz (p:=0) (q:=76) (so+(if sc=0 then 0 else 0)) rfl rfl rfl ⟨_,_,rfl,⟨rfl,rfl⟩⟩ ⟨rfl,by omega⟩ rfl rfl) ?_|refine Bb (jo7 W hz R _ (bs.take 76) (hs.takew 76 Q8E) Q9O 0 _ Q8F) ?_|fail)
 by_cases hsum:takeN ((bs.drop 76).take 4)=IntKind.i64.wrap (sumN (bs.take 76))
 rotate_left
 .rw[show decF bs=(Frm.o,6) by unfold decF;rw[if_neg h1,if_neg h2,if_neg (λh=>h he),if_pos hsum]];repeat' (refine Ba ?_;first|refine Q4Z ?_|refine Bg (bne_iff_ne.2 hsum) ?_|refine Q6t ?_|refine Q5x ?_|refine Bc Q7j ?_|refine Q5c ?_|exact Be|fail)
 have O0:=hs.dropw 4 Q8E
 have O1:=O0.nx (w:=1) Q8E
 have O2:=O1.nx (w:=1) Q8E
 have O3:=O2.nx (w:=1) Q8E
 have O4:=O3.nx (w:=1) Q8E
 have O5:=O4.nx (w:=2) Q8E
 have O6:=O5.nx (w:=2) Q8E
 have O7:=O6.nx (w:=8) Q8E
 have O8:=O7.nx (w:=8) Q8E
 have O9:=O8.nx (w:=8) Q8E
 have O10:=O9.nx (w:=8) Q8E
 have O11:=O10.nx (w:=4) Q8E
 have O12:=O11.nx (w:=4) Q8E
 have O13:=O12.nx (w:=8) Q8E
 have O14:=O13.nx (w:=8) Q8E
 by_cases hm:(jjj bs).may
 .rw[show decF bs=(jjj bs,0) by unfold decF;rw[if_neg h1,if_neg h2,if_neg (λh=>h he),if_neg (λh=>h hsum),if_pos hm]];exact Q10
 .rw[show decF bs=(Frm.o,5) by unfold decF;rw[if_neg h1,if_neg h2,if_neg (λh=>h he),if_neg (λh=>h hsum),if_neg hm]];exact Q10
open Go Go.RowKit Sx
theorem ql1[ZW]{P:Program}{g:FuncId}{vs xs:List Value}{V:Value}(W:World)(hz:ZW.z=some W)(hW:0<W.heap.size)(hr:∀w,(callFunc g ⟨xs⟩).run P w=.ok (.enter g ⟨xs⟩) w)(hV:qan V=true)(hx:∀(F:Nat->Prop) ρ,All2 (Den F ρ) vs xs)(hc:CallAll P g vs [some (rvC [])] λv ms=>v=V/\ms=[(0,rvC [])]):Calls P g ⟨xs⟩ W λe w'=>e=.returned V/\Below W.heap.size W w':=by
 let X:Ctx:=⟨W,λa=>a.block<W.heap.size,1,λ_=>(0,0)⟩;have one:∀(k:Nat)(d:Chunk),[some (rvC [])][k]?=some (some d)->k=0/\d=rvC []:=λk d hk=>Q3E
 have H:HOK X (λ_=>(0,0)) [some (rvC [])] W:=Q1c;rcases hc X _ W xs H (hx _ _) with ⟨x,w',h1,_⟩|⟨_,h2⟩
 .rw[hr] at h1;cases h1
 .refine h2.mono ?_;rintro e w' ⟨x,rfl,v,ms,ρ',⟨rfl,rfl⟩,ha,H',hd⟩;obtain⟨S,E⟩:=H'.ext;have M:RvOK [] (ρ' 0) (S 0) w':=E.inv 0 _ rfl;exact⟨by rw[<-hd.self,qa0 hV],H'.evo.os,H'.evo.tape,H'.evo.output,H'.evo.size,λb hb=>((M.base W hz).2.2 b hb).2⟩
theorem q4m(u:Option Sl)(hu:uN u<80)(h:Hp):qae prog 46 [uV u] h (decV (Frm.o,4)) [] []:=by
 refine qak (G:=tys) [] [] [uV u] tysOK mixed func46 Q8F (call46) xb xb xb xb ⟨.quo,xb⟩ ?_;exact Q1P
theorem qhj(W:World)(F:List By)(u:Option Sl)(bs:List Int)(hs:Src W F u bs)(hu:∀j,j<bs.length->0<=bs.getD j 0/\bs.getD j 0<256)(hc:∀s,u=some s->s.n<=s.c)(i:Nat)(h:Hp)(hi:h[i]?=some (some (jew W F))):
  qae prog 46 [uV u] h (decV (decF bs)) [] [i]:=λh₂ hrh hms X ρ w xs H hx=>by
 obtain⟨S,E⟩:=H.ext
 have hi2:h₂[i]?=some (some (jew W F)):=(hrh i Q7d).trans hi
 have M:MemOK W F (ρ i) (S i) w:=E.inv i _ hi2
 have hb:=M.src hs
 by_cases h80:bs.length<80
 .rw[show decF bs=(Frm.o,4) from if_pos h80];exact q4m u (by rw[<-hb.1];exact h80) h h₂ (λq hq=>by cases hq) hms X ρ w xs H hx
 cases u with
 | none=>exact absurd hb.1 (by show ¬ bs.length=0;omega)
 | some s=>
  have hn:bs.length=s.n:=hb.1;have hsp:s.sp=none:=by
   rcases(hb.2 s rfl).1 with h1|h1
   .exact h1
   .omega
  have hlt:0<w.heap.size:=by
   have:=qgv ((hb.2 s rfl).2 0 Q8E);omega
  letI:ZW:=⟨some w⟩
  have O:OldB w s bs:=⟨hsp,hn,hc s rfl,hu,(hb.2 s rfl).2⟩;obtain rfl:xs=[uR (some s)]:=Q3P;refine .inr ⟨call46 _ w,(ql1 w rfl hlt (λw=>call46 _ w) (V:=decV (decF bs)) rfl (vs:=[uV (some s)]) (xs:=[uR (some s)]) (λF ρ=>⟨λr _=>qbs _ r,xb⟩) (q9v w rfl [] s bs O 0 _ rfl)).mono ?_⟩;exact Q45
def qfr(st now stale skew:Int):Int:=if qbo st/\qbo now/\qbo stale/\qbo skew then (if st+stale<now then 9 else if now+2*skew<st then 9 else 0) else 1
theorem q4n(t:Int)(W:World):xa 79 #[xc t] W (.bool (decide (qbo t))):=by
 by_cases h0:0<=t
 .by_cases h1:t<=1000000
  .rw[xf (show qbo t from⟨h0,h1⟩)];refine Q4j ?_;repeat' (refine Ba ?_;first|refine Q4Z ?_|refine Q5e ?_|refine Q5i ?_|fail)
   all_goals (first|rfl|rw[xf h1])
  .rw[xe (show ¬ qbo t from λh=>h1 h.2)];refine Q4j ?_;repeat' (refine Ba ?_;first|refine Q4Z ?_|refine Q5e ?_|refine Q5i ?_|fail)
   all_goals (first|rfl|rw[xe h1])
 .rw[xe (show ¬ qbo t from λh=>h0 h.1)];refine Q4j ?_;repeat' (refine Ba ?_;first|refine Q4Z ?_|refine Q5e ?_|refine Q5i ?_|fail)
  all_goals rfl
theorem qh7(t:Int)(h:Hp):qae prog 79 [xc t] h (.bool (decide (qbo t))) [] []:=
 qai rfl rfl (call79 _) (q4n t)
theorem q0w(st now stale skew:Int)(W:World):xa 47 #[xc st,xc now,xc stale,xc skew] W (xc (qfr st now stale skew)):=by
 unfold qfr;by_cases h1:qbo st;rotate_left
 .rw[if_neg (λh=>h1 h.1)];exact Q0b
 by_cases h2:qbo now;rotate_left
 .rw[if_neg (λh=>h2 h.2.1)];exact Q0b
 by_cases h3:qbo stale;rotate_left
 .rw[if_neg (λh=>h3 h.2.2.1)];exact Q0b
 by_cases h4:qbo skew;rotate_left
 .rw[if_neg (λh=>h4 h.2.2.2)];exact Q0b
 rw[if_pos ⟨h1,h2,h3,h4⟩];have a1:=h1.1;have a2:=h1.2;have b1:=h2.1;have b2:=h2.2;have c1:=h3.1;have c2:=h3.2;have d1:=h4.1;have d2:=h4.2;have e1:IntKind.i64.wrap (st+stale)=st+stale:=jep _ Q8E Q8E;have e3:IntKind.i64.wrap (now+IntKind.i64.wrap (2*skew))=now+2*skew:=by rw[jep (2*skew) Q8E Q8E,jep _ Q8E Q8E]
 by_cases g1:st+stale<now
 .rw[if_pos g1];exact Q0b
 rw[if_neg g1];by_cases g2:now+2*skew<st
 .rw[if_pos g2];exact Q0b
 rw[if_neg g2];exact Q0b
theorem qkl(st now stale skew:Int)(h:Hp):qae prog 47 [xc st,xc now,xc stale,xc skew] h (xc (qfr st now stale skew)) [] []:=
 qai rfl rfl (call47 _) (q0w st now stale skew)
open Go Go.RowKit Sx
def NSt.fi(s:NSt):Flr:=⟨s.fm,s.fv,⟨s.fx,s.fy,s.fa,s.fb,s.fd⟩⟩
def NSt.hr(s:NSt)(r:HrS):NSt:=⟨s.C,s.id,s.boot,r.seq,s.told,s.asked,s.bad,r.F.most,r.F.valid,r.F.e.x,r.F.e.y,r.F.e.a,r.F.e.b,r.F.e.d,r.T,s.bn,r.l,s.te,s.tx,r.S⟩
def NSt.badder(s:NSt):NSt:={s with bad:=min (s.bad+1) 1000000}
def NSt.tab(s:NSt)(T:Tbl):NSt:={s with T:=T}
structure HeardS where
 s:NSt
 o:Option Ou
 e:Int
def NSt.tk(s:NSt)(T:Tbl)(f:Frm)(at_ now fine:Int):HrS:=jfu (s.nd λ_=>(0,0)) s.bl s.fi T f.s.toNat f at_ now fine
def hearP(s:NSt)(bs:List Int)(at_ now fine:Int):HeardS:=
 if ¬ (0<=now/\now<=1000000) then ⟨s,none,1⟩
 else if (decF bs).2≠0 then ⟨s.badder,none,(decF bs).2⟩
 else if (decF bs).1.s=s.id then ⟨s,none,9⟩
 else if qfr (decF bs).1.st now (s.C 6) (s.C 4)≠0 then ⟨s,none,qfr (decF bs).1.st now (s.C 6) (s.C 4)⟩
 else if (hearT s.T (decF bs).1.s (decF bs).1.b (decF bs).1.q now).1≠0 then ⟨s.tab (hearT s.T (decF bs).1.s (decF bs).1.b (decF bs).1.q now).2,none,(hearT s.T (decF bs).1.s (decF bs).1.b (decF bs).1.q now).1⟩
 else ⟨s.hr (s.tk (hearT s.T (decF bs).1.s (decF bs).1.b (decF bs).1.q now).2 (decF bs).1 at_ now fine),(s.tk (hearT s.T (decF bs).1.s (decF bs).1.b (decF bs).1.q now).2 (decF bs).1 at_ now fine).o,0⟩
abbrev jjk(W:World)(B:List By)(s:NSt)(g:Rz):Hp:=[some (ndC (s.nd g) 2 3 4 5),some (jew W B),some (fiF s.fi),some (tblC s.T),some (twC s.bn s.bl),some (twC s.te s.tx)]
variable{c:Chunk}{B:List By}
theorem qe2{j:Nat}{d c2 d2:Chunk}{s:NSt}:Opens [⟨i,c,ndP s,d⟩,⟨j,c2,jew W B,d2⟩] (λ_:Rz=>True) (jjk W B s):=by
 refine qsx (jjk W B s) [(0,0),(1,2),(2,3),(3,4),(4,5)] (λl i hm=>?_) rfl (λβ=>rfl) (λβ hβ l dl hl=>?_) (λβ hβ k d' hk=>?_)
 .simp only[xi,Prod.mk.injEq,xD,or_false] at hm;rcases hm with ⟨rfl,rfl⟩|⟨rfl,rfl⟩|⟨rfl,rfl⟩|⟨rfl,rfl⟩|⟨rfl,rfl⟩<;>rfl
 .match l,hl with
  | 0,hl=>
   obtain rfl:_=dl:=by simpa using hl
   exact⟨_,rfl,rfl,rfl,jid (D:=s.nd β) (f:=2) (t:=3) (b:=4) (m:=5) (f':=1) (t':=2) (b':=3) (m':=4) Q8F Q8F Q8F Q8F⟩
  | 1,hl=>
   obtain rfl:_=dl:=by simpa using hl
   exact⟨_,rfl,rfl,rfl,re7⟩
  | 2,hl=>
   obtain rfl:_=dl:=by simpa using hl
   exact⟨_,rfl,rfl,rfl,nzj⟩
  | 3,hl=>
   exact Q4W
  | 4,hl=>
   exact Q4W
  | l+5,hl=>simp at hl
 .match k,hk with
  | 0,_=>exact .inr ⟨0,rfl,_,rfl⟩
  | 1,_=>exact .inl rfl
  | 2,_=>exact .inr ⟨1,rfl,_,rfl⟩
  | 3,_=>exact .inr ⟨2,rfl,_,rfl⟩
  | 4,_=>exact .inr ⟨3,rfl,_,rfl⟩
  | 5,_=>exact .inr ⟨4,rfl,_,rfl⟩
  | k+6,hk=>simp at hk
theorem qe3{j:Nat}{d c2 d2:Chunk}{T:NSt}:∀l,(l=0\/l=2\/l=3\/l=4\/l=5)->l<[(⟨i,c,ndP T,d⟩:jeo),⟨j,c2,jew W B,d2⟩].length->∃s,[(⟨i,c,ndP T,d⟩:jeo),⟨j,c2,jew W B,d2⟩][l]?=some s/\s.e.x≠Ext.none/\Selfish s.e.x:=λl hl hl2=>by
 have h2:l<2:=hl2;obtain rfl:l=0:=by omega
 exact⟨_,rfl,q54 T,qba⟩
theorem qsy(h:(decF bs).2=0):(decF bs).1.may:=by
 grind[decF]
theorem jdx(D:NdS)(k:Int)(f t b m:Nat){x:Ext}(hx:x=jex jfa 64 D.g D.S):ChunkLe (ndC {D with bad:=k} f t b m) (@Chunk.mk x true 85 ((84,1,xc k)::(ndC D f t b m).ps)):=
 ⟨λh=>h,nlr _,λj hj=>by
  have hj:j<85:=hj;by_cases h:j<79
  .have e1:∀(a:Value) r,qbf ((79,6,a)::r) j=qbf r j:=λa r=>by rw[qar,if_neg Q8E]
   have e2:∀(a:Value) r,qbf ((84,1,a)::r) j=qbf r j:=λa r=>by rw[qar,if_neg Q8E]
   exact(e1 _ _).trans ((e2 _ _).trans (e1 _ _)).symm
  .obtain⟨i,rfl⟩:∃i,j=79+i:=⟨j-79,by omega⟩;have h6:i<6:=by omega
   match i,h6 with
   | 0,_=>exact Eq.trans (b:=xd b) rfl rfl
   | 1,_=>exact Eq.trans (b:=xd m) rfl rfl
   | 2,_=>exact Eq.trans (b:=.int .i64 D.seq) rfl rfl
   | 3,_=>exact Eq.trans (b:=.int .i64 D.told) rfl rfl
   | 4,_=>exact Eq.trans (b:=.int .i64 D.asked) rfl rfl
   | 5,_=>exact Eq.trans (b:=.int .i64 k) rfl rfl,.inr hx.symm⟩
variable{D:NdS}{m:Nat}
theorem q4o{f t b f' t' b' m':Nat}(h:ChunkLe (ndC D f t b m) c)(hf:ixK ix f'=some f)(ht:ixK ix t'=some t)(hb:ixK ix b'=some b)(hm:ixK ix m'=some m):∀j,j<85->Re1 ix (c.f j) ((ndC D f' t' b' m').f j):=λj hj=>by
 rw[<-h.2.2.1 j hj];exact jid hf ht hb hm j hj
structure NdH(s:NSt):Prop where
 C2:0<=s.C 2/\s.C 2<=1000
 bl:0<=s.bl/\s.bl<1000
 seq:0<=s.seq/\s.seq<65535
 boot:0<=s.boot/\s.boot<=65535
 bad:0<=s.bad/\s.bad<=1000000
 F:s.fv=true->s.fi.e.may
 T:TOK s.T
theorem jq7(W:World)(B:List By)(s:NSt)(u:Option Sl)(bs:List Int)(hs:Src W B u bs)(hu:∀j,j<bs.length->0<=bs.getD j 0/\bs.getD j 0<256)(hc:∀s,u=some s->s.n<=s.c)(ok:NdH s)(at_ now fine:Int)(ht:¬ (0<=now/\now<=1000000))(i j K:Nat)(hij:i≠j)(h:Hp)(hi:h[i]?=some (some (ndP s)))(hj:h[j]?=some (some (jew W B)))(hK:h[K]?=some none):
  qae prog 11 [xd i,uV u,xc at_,xc now,xc fine] h (.tuple #[.slice none 0 0,xc 1]) [(i,ndP (s)),(j,jew W B)] []:=by
 refine qaq (G:=tys) (λ_:Rz=>True) (jjk W B s) [⟨i,ndP s,ndP s,ndP (s)⟩,⟨j,jew W B,jew W B,jew W B⟩] [] [xd 0,uV u,xc at_,xc now,xc fine] tysOK mixed func11 Q8F (call11) ⟨hi,hj,xb⟩ ⟨Q74,Q74,xb⟩ Q9b Q7F xb Q7w qe2 ?_
 intro g _
 repeat' (refine Ba ?_;first|refine Q4Z ?_|refine Q71 ?_|refine Bb (qgt now _) ?_|refine Bg (by rw[xe ht];rfl) ?_|fail)
 refine Ba ?_
 refine qe0 (s) g 0 2 3 4 5 [1] qe3 (λi hi=>by have hi:i<2:=hi;simp only[xi,xD,or_false];omega) Q8F rfl rfl rfl Q7M Q8F rfl rfl re7 Q8F Q8F rfl rfl re2 Q8F rfl rfl re2 Q8F (λk hk=>by simp at hk;omega) (λk hk d hd l hl=>?_) (qbt rfl) ?_
 .exact Q1F
 refine Bc (.plain rfl) ?_
 refine Bc Q7q ?_
 refine Bc xb ?_
 refine Bc Q7x ?_
 exact Be
theorem jq8(W:World)(B:List By)(s:NSt)(u:Option Sl)(bs:List Int)(hs:Src W B u bs)(hu:∀j,j<bs.length->0<=bs.getD j 0/\bs.getD j 0<256)(hc:∀s,u=some s->s.n<=s.c)(ok:NdH s)(at_ now fine:Int)(ht:0<=now/\now<=1000000)(hd:(decF bs).2≠0)(i j K:Nat)(hij:i≠j)(h:Hp)(hi:h[i]?=some (some (ndP s)))(hj:h[j]?=some (some (jew W B)))(hK:h[K]?=some none):
  qae prog 11 [xd i,uV u,xc at_,xc now,xc fine] h (.tuple #[.slice none 0 0,xc (decF bs).2]) [(i,ndP (s.badder)),(j,jew W B)] []:=by
 refine qaq (G:=tys) (λ_:Rz=>True) (jjk W B s) [⟨i,ndP s,ndP s,ndP (s.badder)⟩,⟨j,jew W B,jew W B,jew W B⟩] [] [xd 0,uV u,xc at_,xc now,xc fine] tysOK mixed func11 Q8F (call11) ⟨hi,hj,xb⟩ ⟨Q74,Q74,xb⟩ Q9b Q7F xb Q7w qe2 ?_
 intro g _
 have hw:min (IntKind.i64.wrap (s.bad+1)) 1000000=min (s.bad+1) 1000000:=by rw[jep (s.bad+1) (by have:=ok.bad;omega) (by have:=ok.bad;omega)]
 repeat' (refine Ba ?_;first|refine Q4Z ?_|refine Q5D ?_|refine Bg (nn hd) ?_|fail)
 refine Ba ?_
 refine N.min2 ?_
 rw[hw]
 repeat' (refine Ba ?_;first|refine Q4Z ?_|refine Q71 ?_|fail)
 refine Ba ?_
 refine qe0 (s.badder) g 0 2 3 4 5 [1] qe3 (λi hi=>by have hi:i<2:=hi;simp only[xi,xD,or_false];omega) Q8F rfl rfl rfl (q4o (jdx (s.nd g) (min (s.bad+1) 1000000) 2 3 4 5 rfl) Q8F Q8F Q8F Q8F) Q8F rfl rfl re7 Q8F Q8F rfl rfl re2 Q8F rfl rfl re2 Q8F (λk hk=>by simp at hk;omega) (λk hk d hd l hl=>?_) (qbt rfl) ?_
 .exact Q1F
 refine Bc (.plain rfl) ?_
 refine Bc Q7q ?_
 refine Bc xb ?_
 refine Bc Q7x ?_
 exact Be
theorem jq9(W:World)(B:List By)(s:NSt)(u:Option Sl)(bs:List Int)(hs:Src W B u bs)(hu:∀j,j<bs.length->0<=bs.getD j 0/\bs.getD j 0<256)(hc:∀s,u=some s->s.n<=s.c)(ok:NdH s)(at_ now fine:Int)(ht:0<=now/\now<=1000000)(hd:(decF bs).2=0)(ho:(decF bs).1.s=s.id)(i j K:Nat)(hij:i≠j)(h:Hp)(hi:h[i]?=some (some (ndP s)))(hj:h[j]?=some (some (jew W B)))(hK:h[K]?=some none):
  qae prog 11 [xd i,uV u,xc at_,xc now,xc fine] h (.tuple #[.slice none 0 0,xc 9]) [(i,ndP (s)),(j,jew W B)] []:=by
 refine qaq (G:=tys) (λ_:Rz=>True) (jjk W B s) [⟨i,ndP s,ndP s,ndP (s)⟩,⟨j,jew W B,jew W B,jew W B⟩] [] [xd 0,uV u,xc at_,xc now,xc fine] tysOK mixed func11 Q8F (call11) ⟨hi,hj,xb⟩ ⟨Q74,Q74,xb⟩ Q9b Q7F xb Q7w qe2 ?_
 intro g _
 repeat' (refine Ba ?_;first|refine Q4Z ?_|refine Q71 ?_|refine Q5D ?_|refine Bf (ni hd) ?_|refine Bg (ei ho) ?_|fail)
 refine Ba ?_
 refine qe0 (s) g 0 2 3 4 5 [1] qe3 (λi hi=>by have hi:i<2:=hi;simp only[xi,xD,or_false];omega) Q8F rfl rfl rfl Q7M Q8F rfl rfl re7 Q8F Q8F rfl rfl re2 Q8F rfl rfl re2 Q8F (λk hk=>by simp at hk;omega) (λk hk d hd l hl=>?_) (qbt rfl) ?_
 .exact Q1F
 refine Bc (.plain rfl) ?_
 refine Bc Q7q ?_
 refine Bc xb ?_
 refine Bc Q7x ?_
 exact Be
theorem jra(W:World)(B:List By)(s:NSt)(u:Option Sl)(bs:List Int)(hs:Src W B u bs)(hu:∀j,j<bs.length->0<=bs.getD j 0/\bs.getD j 0<256)(hc:∀s,u=some s->s.n<=s.c)(ok:NdH s)(at_ now fine:Int)(ht:0<=now/\now<=1000000)(hd:(decF bs).2=0)(ho:¬ (decF bs).1.s=s.id)(hf:qfr (decF bs).1.st now (s.C 6) (s.C 4)≠0)(i j K:Nat)(hij:i≠j)(h:Hp)(hi:h[i]?=some (some (ndP s)))(hj:h[j]?=some (some (jew W B)))(hK:h[K]?=some none):
  qae prog 11 [xd i,uV u,xc at_,xc now,xc fine] h (.tuple #[.slice none 0 0,xc (qfr (decF bs).1.st now (s.C 6) (s.C 4))]) [(i,ndP (s)),(j,jew W B)] []:=by
 refine qaq (G:=tys) (λ_:Rz=>True) (jjk W B s) [⟨i,ndP s,ndP s,ndP (s)⟩,⟨j,jew W B,jew W B,jew W B⟩] [] [xd 0,uV u,xc at_,xc now,xc fine] tysOK mixed func11 Q8F (call11) ⟨hi,hj,xb⟩ ⟨Q74,Q74,xb⟩ Q9b Q7F xb Q7w qe2 ?_
 intro g _
 repeat' (refine Ba ?_;first|refine Q4Z ?_|refine Q71 ?_|refine Q5D ?_|refine Bf (ni hd) ?_|refine Bf (en ho) ?_|refine Bb (qkl (decF bs).1.st now (s.C 6) (s.C 4) _) ?_|refine Bg (nn hf) ?_|fail)
 refine Ba ?_
 refine qe0 (s) g 0 2 3 4 5 [1] qe3 (λi hi=>by have hi:i<2:=hi;simp only[xi,xD,or_false];omega) Q8F rfl rfl rfl Q7M Q8F rfl rfl re7 Q8F Q8F rfl rfl re2 Q8F rfl rfl re2 Q8F (λk hk=>by simp at hk;omega) (λk hk d hd l hl=>?_) (qbt rfl) ?_
 .exact Q1F
 refine Bc (.plain rfl) ?_
 refine Bc Q7q ?_
 refine Bc xb ?_
 refine Bc Q7x ?_
 exact Be
theorem jrb(W:World)(B:List By)(s:NSt)(u:Option Sl)(bs:List Int)(hs:Src W B u bs)(hu:∀j,j<bs.length->0<=bs.getD j 0/\bs.getD j 0<256)(hc:∀s,u=some s->s.n<=s.c)(ok:NdH s)(at_ now fine:Int)(ht:0<=now/\now<=1000000)(hd:(decF bs).2=0)(ho:¬ (decF bs).1.s=s.id)(hf:qfr (decF bs).1.st now (s.C 6) (s.C 4)=0)(he:(hearT s.T (decF bs).1.s (decF bs).1.b (decF bs).1.q now).1≠0)(i j K:Nat)(hij:i≠j)(h:Hp)(hi:h[i]?=some (some (ndP s)))(hj:h[j]?=some (some (jew W B)))(hK:h[K]?=some none):
  qae prog 11 [xd i,uV u,xc at_,xc now,xc fine] h (.tuple #[.slice none 0 0,xc (hearT s.T (decF bs).1.s (decF bs).1.b (decF bs).1.q now).1]) [(i,ndP (s.tab (hearT s.T (decF bs).1.s (decF bs).1.b (decF bs).1.q now).2)),(j,jew W B)] []:=by
 refine qaq (G:=tys) (λ_:Rz=>True) (jjk W B s) [⟨i,ndP s,ndP s,ndP (s.tab (hearT s.T (decF bs).1.s (decF bs).1.b (decF bs).1.q now).2)⟩,⟨j,jew W B,jew W B,jew W B⟩] [] [xd 0,uV u,xc at_,xc now,xc fine] tysOK mixed func11 Q8F (call11) ⟨hi,hj,xb⟩ ⟨Q74,Q74,xb⟩ Q9b Q7F xb Q7w qe2 ?_
 intro g _
 repeat' (refine Ba ?_;first|refine Q4Z ?_|refine Q71 ?_|refine Q5z ?_|refine Bg (nn he) ?_|fail)
 refine Ba ?_
 refine qe0 (s.tab (hearT s.T (decF bs).1.s (decF bs).1.b (decF bs).1.q now).2) g 0 2 3 4 5 [1] qe3 (λi hi=>by have hi:i<2:=hi;simp only[xi,xD,or_false];omega) Q8F rfl rfl rfl (jid (D:=(s.tab (hearT s.T (decF bs).1.s (decF bs).1.b (decF bs).1.q now).2).nd g) (f:=2) (t:=3) (b:=4) (m:=5) (f':=1) (t':=2) (b':=3) (m':=4) Q8F Q8F Q8F Q8F) Q8F rfl rfl re7 Q8F Q8F rfl rfl re2 Q8F rfl rfl re2 Q8F (λk hk=>by simp at hk;omega) (λk hk d hd l hl=>?_) (qbt rfl) ?_
 .exact Q1F
 refine Bc (.plain rfl) ?_
 refine Bc Q7q ?_
 refine Bc xb ?_
 refine Bc Q7x ?_
 exact Be
theorem jrc(W:World)(B:List By)(s:NSt)(u:Option Sl)(bs:List Int)(hs:Src W B u bs)(hu:∀j,j<bs.length->0<=bs.getD j 0/\bs.getD j 0<256)(hc:∀s,u=some s->s.n<=s.c)(ok:NdH s)(at_ now fine:Int)(ht:0<=now/\now<=1000000)(hd:(decF bs).2=0)(ho:¬ (decF bs).1.s=s.id)(hf:qfr (decF bs).1.st now (s.C 6) (s.C 4)=0)(he:(hearT s.T (decF bs).1.s (decF bs).1.b (decF bs).1.q now).1=0)(hx:(s.tk (hearT s.T (decF bs).1.s (decF bs).1.b (decF bs).1.q now).2 (decF bs).1 at_ now fine).o=none)(i j K:Nat)(hij:i≠j)(h:Hp)(hi:h[i]?=some (some (ndP s)))(hj:h[j]?=some (some (jew W B)))(hK:h[K]?=some none):
  qae prog 11 [xd i,uV u,xc at_,xc now,xc fine] h (.tuple #[.slice none 0 0,xc 0]) [(i,ndP (s.hr (s.tk (hearT s.T (decF bs).1.s (decF bs).1.b (decF bs).1.q now).2 (decF bs).1 at_ now fine))),(j,jew W B)] []:=by
 refine qaq (G:=tys) (λ_:Rz=>True) (jjk W B s) [⟨i,ndP s,ndP s,ndP (s.hr (s.tk (hearT s.T (decF bs).1.s (decF bs).1.b (decF bs).1.q now).2 (decF bs).1 at_ now fine))⟩,⟨j,jew W B,jew W B,jew W B⟩] [] [xd 0,uV u,xc at_,xc now,xc fine] tysOK mixed func11 Q8F (call11) ⟨hi,hj,xb⟩ ⟨Q74,Q74,xb⟩ Q9b Q7F xb Q7w qe2 ?_
 intro g _
 repeat' (refine Ba ?_;first|refine Q4Z ?_|refine Q5z ?_|refine Bf (ni he) ?_|fail)
 have hmay:=qsy hd
 have hhd:=hmay.2.1
 unfold Frm.head at hhd
 refine Ba ?_
 refine Bh Q7i λv ms hR=>?_
 obtain⟨rfl,hR⟩:=hR
 rw[show(jfu (s.nd g) s.bl s.fi (hearT s.T (decF bs).1.s (decF bs).1.b (decF bs).1.q now).2 (decF bs).1.s.toNat (decF bs).1 at_ now fine)=s.tk (hearT s.T (decF bs).1.s (decF bs).1.b (decF bs).1.q now).2 (decF bs).1 at_ now fine from rfl] at hR
 rw[hx] at hR
 obtain rfl:=hR
 repeat' (refine Ba ?_;first|refine Q4Z ?_|refine Q71 ?_|fail)
 refine Ba ?_
 refine qe0 (s.hr (s.tk (hearT s.T (decF bs).1.s (decF bs).1.b (decF bs).1.q now).2 (decF bs).1 at_ now fine)) g 0 2 3 4 5 [1] qe3 (λi hi=>by have hi:i<2:=hi;simp only[xi,xD,or_false];omega) Q8F rfl rfl rfl Q7N Q8F rfl rfl re7 Q8F Q8F rfl rfl re2 Q8F rfl rfl re2 Q8F (λk hk=>by simp at hk;omega) (λk hk d hd l hl=>?_) (qbt rfl) ?_
 .exact Q1F
 refine Bc (.plain rfl) ?_
 refine Bc Q7q ?_
 refine Bc xb ?_
 refine Bc Q7x ?_
 exact Be
theorem jrd(W:World)(B:List By)(s:NSt)(u:Option Sl)(bs:List Int)(hs:Src W B u bs)(hu:∀j,j<bs.length->0<=bs.getD j 0/\bs.getD j 0<256)(hc:∀s,u=some s->s.n<=s.c)(ok:NdH s)(at_ now fine:Int)(ht:0<=now/\now<=1000000)(hd:(decF bs).2=0)(ho:¬ (decF bs).1.s=s.id)(hf:qfr (decF bs).1.st now (s.C 6) (s.C 4)=0)(he:(hearT s.T (decF bs).1.s (decF bs).1.b (decF bs).1.q now).1=0)(x:Ou)(hx:(s.tk (hearT s.T (decF bs).1.s (decF bs).1.b (decF bs).1.q now).2 (decF bs).1 at_ now fine).o=some x)(i j K:Nat)(hij:i≠j)(h:Hp)(hi:h[i]?=some (some (ndP s)))(hj:h[j]?=some (some (jew W B)))(hK:h[K]?=some none):
  CallAll prog 11 [xd i,uV u,xc at_,xc now,xc fine] h (λv ms=>∃κ:Nat,1<=κ/\v=.tuple #[.slice (some ⟨K,0,some 0⟩) 1 κ,xc 0]/\ms=[(i,ndP (s.hr (s.tk (hearT s.T (decF bs).1.s (decF bs).1.b (decF bs).1.q now).2 (decF bs).1 at_ now fine))),(j,jew W B),(K,ouR [x] κ)]):=by
 have key:=qa8 (G:=tys) (h:=h) (vs:=[xd i,uV u,.int .i64 at_,.int .i64 now,.int .i64 fine]) (λ_:Rz=>True) (jjk W B s) (α:=Nat) (λκ=>1<=κ) (λκ=>.tuple #[.slice (some ⟨K,0,some 0⟩) 1 κ,.int .i64 0]) [⟨i,ndP s,ndP s,ndP s⟩,⟨j,jew W B,jew W B,jew W B⟩] (λ_=>[ndP (s.hr (s.tk (hearT s.T (decF bs).1.s (decF bs).1.b (decF bs).1.q now).2 (decF bs).1 at_ now fine)),jew W B]) (λκ=>[⟨K,12,ouR [x] κ⟩]) [xd 0,uV u,.int .i64 at_,.int .i64 now,.int .i64 fine] tysOK mixed func11 Q8F (call11) ⟨hi,hj,xb⟩ ⟨Q74,Q74,xb⟩ (λκ _=>⟨Q74,Q74,xb⟩) Q9b Q7F (λκ hκ=>Q8u) Q7w qe2 ?_
 .refine qax key λv ms hR=>?_
  exact Q3F
 intro g _
 repeat' (refine Ba ?_;first|refine Q4Z ?_|refine Q5z ?_|refine Bf (ni he) ?_|fail)
 have hmay:=qsy hd
 have hhd:=hmay.2.1
 unfold Frm.head at hhd
 refine Ba ?_
 refine Bh Q7i λv ms hR=>?_
 obtain⟨rfl,hR⟩:=hR
 rw[show(jfu (s.nd g) s.bl s.fi (hearT s.T (decF bs).1.s (decF bs).1.b (decF bs).1.q now).2 (decF bs).1.s.toNat (decF bs).1 at_ now fine)=s.tk (hearT s.T (decF bs).1.s (decF bs).1.b (decF bs).1.q now).2 (decF bs).1 at_ now fine from rfl] at hR
 rw[hx] at hR
 obtain⟨κ,hκ,rfl⟩:=hR
 repeat' (refine Ba ?_;first|refine Q4Z ?_|refine Q71 ?_|fail)
 refine Ba ?_
 refine qe0 (s.hr (s.tk (hearT s.T (decF bs).1.s (decF bs).1.b (decF bs).1.q now).2 (decF bs).1 at_ now fine)) g 0 2 3 4 5 [1,12] qe3 (λi hi=>by have hi:i<2:=hi;simp only[xi,xD,or_false];omega) Q8F rfl rfl rfl Q7N Q8F rfl rfl re7 Q8F Q8F rfl rfl re2 Q8F rfl rfl re2 Q8F (λk hk=>by simp at hk;omega) (λk hk d hd l hl=>?_) (λρ ρ' ha=>by have:=ha 12 ⟨_,rfl⟩;simp[den,den2,den1,den0,jfd,this]) ?_
 .simp only[xi,xD,or_false] at hk;rcases hk with rfl|rfl
  .exact Q4H
  .obtain rfl:ouR [x] κ=d:=by simpa using hd
   exact q39 hl
 refine Bt κ ⟨hκ,?_⟩
 refine Bc (.tuple ⟨.slice Q8F,.plain rfl,xb⟩) ?_
 refine Bc Q7q ?_
 refine Bc ⟨⟨x7 rfl,qu6 rfl⟩,xb⟩ ?_
 refine Bc ⟨⟨.inr ⟨_,rfl,rfl⟩,.inr ⟨_,rfl,rfl⟩,xb⟩,.inl rfl,xb⟩ ?_
 exact Be
def q0x(W:World)(B:List By)(r:HeardS)(i j K:Nat)(v:Value)(ms:Mz):Prop:=
 match r.o with
 | none=>v=.tuple #[.slice none 0 0,.int .i64 r.e]/\ms=[(i,ndP r.s),(j,jew W B)]
 | some x=>∃κ:Nat,1<=κ/\v=.tuple #[.slice (some ⟨K,0,some 0⟩) 1 κ,.int .i64 r.e]/\ms=[(i,ndP r.s),(j,jew W B),(K,ouR [x] κ)]
theorem qju{r:HeardS}{s':NSt}{e':Int}{j K:Nat}{g:FuncId}{h:Hp}{rh:List Nat}(e:r=⟨s',none,e'⟩)(hc:qae prog g vs h (.tuple #[.slice none 0 0,xc e']) [(i,ndP s'),(j,jew W B)] rh):CallAll prog g vs h (q0x W B r i j K):=by
 subst e;exact qax (qcr hc) λv ms hR=>hR
theorem jdy(W:World)(B:List By)(s:NSt)(u:Option Sl)(bs:List Int)(hs:Src W B u bs)(hu:∀j,j<bs.length->0<=bs.getD j 0/\bs.getD j 0<256)(hc:∀s,u=some s->s.n<=s.c)(ok:NdH s)(at_ now fine:Int)(i j K:Nat)(hij:i≠j)(h:Hp)(hi:h[i]?=some (some (ndP s)))(hj:h[j]?=some (some (jew W B)))(hK:h[K]?=some none):
  CallAll prog 11 [xd i,uV u,xc at_,xc now,xc fine] h (q0x W B (hearP s bs at_ now fine) i j K):=by
 by_cases ht:0<=now/\now<=1000000
 rotate_left
 .refine qju ?_ (jq7 W B s u bs hs hu hc ok at_ now fine ht i j K hij h hi hj hK);unfold hearP;rw[if_pos ht]
 by_cases hd:(decF bs).2=0
 rotate_left
 .refine qju ?_ (jq8 W B s u bs hs hu hc ok at_ now fine ht hd i j K hij h hi hj hK);unfold hearP;rw[if_neg (not_not_intro ht),if_pos hd]
 by_cases ho:(decF bs).1.s=s.id
 .refine qju ?_ (jq9 W B s u bs hs hu hc ok at_ now fine ht hd ho i j K hij h hi hj hK);unfold hearP;rw[if_neg (not_not_intro ht),if_neg (not_not_intro hd),if_pos ho]
 by_cases hf:qfr (decF bs).1.st now (s.C 6) (s.C 4)=0
 rotate_left
 .refine qju ?_ (jra W B s u bs hs hu hc ok at_ now fine ht hd ho hf i j K hij h hi hj hK);unfold hearP;rw[if_neg (not_not_intro ht),if_neg (not_not_intro hd),if_neg ho,if_pos hf]
 by_cases he:(hearT s.T (decF bs).1.s (decF bs).1.b (decF bs).1.q now).1=0
 rotate_left
 .refine qju ?_ (jrb W B s u bs hs hu hc ok at_ now fine ht hd ho hf he i j K hij h hi hj hK);unfold hearP;rw[if_neg (not_not_intro ht),if_neg (not_not_intro hd),if_neg ho,if_neg (not_not_intro hf),if_pos he]
 have e1:hearP s bs at_ now fine=⟨s.hr (s.tk (hearT s.T (decF bs).1.s (decF bs).1.b (decF bs).1.q now).2 (decF bs).1 at_ now fine),(s.tk (hearT s.T (decF bs).1.s (decF bs).1.b (decF bs).1.q now).2 (decF bs).1 at_ now fine).o,0⟩:=by
  unfold hearP;rw[if_neg (not_not_intro ht),if_neg (not_not_intro hd),if_neg ho,if_neg (not_not_intro hf),if_neg (not_not_intro he)]
 cases hx:(s.tk (hearT s.T (decF bs).1.s (decF bs).1.b (decF bs).1.q now).2 (decF bs).1 at_ now fine).o with
 | none=>exact qju (by rw[e1,hx]) (jrc W B s u bs hs hu hc ok at_ now fine ht hd ho hf he hx i j K hij h hi hj hK)
 | some x=>
  rw[e1,hx];exact jrd W B s u bs hs hu hc ok at_ now fine ht hd ho hf he x hx i j K hij h hi hj hK
def NdS.up(D:NdS):NdS:={D with seq:=D.seq+1}
def NSt.tl(s:NSt)(g:Rz)(now fine:Int):TlS:=jo4 (s.nd g).up (s.bn-1) (s.T.ev now (s.C 7)) now fine
def NSt.ask(s:NSt)(g:Rz)(now fine:Int):TlS:=jq5 (s.tl g now fine).D (s.tl g now fine).l (s.T.ev now (s.C 7)) now fine
def NdS.at'(D:NdS)(g:Rz):NdS:={D with g:=g}
structure NdT(s:NSt):Prop where
 seq:0<=s.seq/\s.seq<65530
 boot:0<=s.boot/\s.boot<=65535
 bn:0<s.bn/\s.bn<1000
 te:0<=s.te/\s.te<=1000000
 C7 : -9223372036854775808<=s.C 7/\s.C 7<9223372036854775808
 E:s.T.E.length<=64
open Go Go.RowKit Sx
def EAll(P:Ent->Prop)(E:Ez):Prop:=∀k e,dGet E k=some e->P e
variable{P:Ent->Prop}
theorem EAll.nil:EAll P []:=λk e h=>by simp[dGet] at h
variable{E:Ez}
theorem EAll.put(h:EAll P E){k:Int}{e:Ent}(he:P e):EAll P (dPut E k e):=λk' x hx=>by
 by_cases hk:k'=k
 .grind[qbe]
 .rw[qcx _ _ hk] at hx;exact h k' x hx
theorem EAll.del(h:EAll P E)(k:Int):EAll P (jfr E k):=λk' x hx=>by
 by_cases hk:k'=k
 .grind[qit]
 .rw[qlc _ hk] at hx;exact h k' x hx
structure EP(id:Int)(e:Ent):Prop where
 n:0<=e.node/\e.node<64
 ne:¬ e.node=id
 yes:e.has=true->e.el.may/\qbo e.when_
 no:e.has=false->e.el=El.o
variable{id n:Int}
theorem EP.beg(h:EAll (EP id) E)(hn:0<=n/\n<64)(hi:¬ n=id):EAll (EP id) (je9 E n):=by
 unfold je9;split
 .exact h.put ⟨hn,hi,(λh=>by cases h),λ_=>rfl⟩
 .exact h
theorem EP.heard{id most:Int}{E:Ez}(h:EAll (EP id) E){n:Int}(boot now:Int)(hn:0<=n/\n<64)(hi:¬ n=id):EAll (EP id) (qf8 most E n boot now):=by
 unfold qf8;have he:EP id { (dGet E n).getD Ent.zero with node:=n,boot:=boot,heard:=now }:=by
  cases hg:dGet E n with
  | none=>exact⟨hn,hi,(λh=>by cases h),λ_=>rfl⟩
  | some e=>exact⟨hn,hi,(h n e hg).yes,(h n e hg).no⟩
 split
 .exact(h.del _).put he
 .exact h.put he
structure TI(id:Int)(T:Tbl):Prop where
 ok:TOK T
 E:EOK T.E
 P:EAll (EP id) T.E
variable{T:Tbl}
theorem TI.hear(h:TI id T)(boot seq now:Int)(hn:0<=n/\n<64)(hi:¬ n=id):TI id (hearT T n boot seq now).2/\(hearT T n boot seq now).2.most=T.most:=by
 obtain⟨h1,h2,h3⟩:=q2m h.ok h.E (show hearT T n boot seq now=((hearT T n boot seq now).1,(hearT T n boot seq now).2) from rfl);refine⟨⟨h1,h2,?_⟩,h3⟩;unfold hearT;split
 .split
  .exact EP.heard (EP.beg h.P hn hi) boot now hn hi
  .split
   .split
    .exact h.P
    .split
     .exact EP.heard h.P boot now hn hi
     .exact h.P
   .split
    .exact EP.heard (EP.beg h.P hn hi) boot now hn hi
    .exact h.P
 .exact h.P
theorem TI.dels(h:TI id T)(n:Int):TI id ⟨T.most,jfr T.E n,T.lives⟩:=
 ⟨⟨h.ok.most,Int.le_trans (Int.ofNat_le.2 (qv0 _ _)) h.ok.len,h.ok.seen⟩,h.E.del n,h.P.del n⟩
theorem TI.leave(h:TI id T)(n:Int):TI id (T.leave n)/\(T.leave n).most=T.most:=by
 unfold Tbl.leave;split
 .rename_i l hl;refine⟨⟨⟨h.ok.most,(h.dels n).ok.len,λm l' hl'=>?_⟩,h.E.del n,h.P.del n⟩,rfl⟩;unfold je5 at hl';simp only at hl';split at hl'
  .obtain rfl:_=l':=by simpa using hl'
   exact h.ok.seen n l hl
  .exact h.ok.seen m l' hl'
 simp_all
theorem TI.keep(h:TI id T)(k:Int){g:El}{now:Int}(hg:g.may)(ht:qbo now):TI id (T.keep k g now)/\(T.keep k g now).most=T.most:=by
 unfold Tbl.keep;split
 .rename_i e he;have hk:=h.E.key k e he;refine⟨⟨⟨h.ok.most,?_,h.ok.seen⟩,?_,h.P.put ⟨(h.P k e he).n,(h.P k e he).ne,λ_=>⟨hg,ht⟩,λh=>by cases h⟩⟩,rfl⟩
  .show((dPut T.E k _).length:Int)<=_;rw[qld,if_neg (by rw[he];simp)];exact h.ok.len
  .have:=h.E.put (e.put g.x g.y g.a g.b g.d now);rw[show(e.put g.x g.y g.a g.b g.d now).node=k from hk] at this;exact this
 simp_all
theorem TI.putE(h:TI id T)(C:Nat->Int)(k:Int)(e:El)(w now:Int):TI id (jhy C T k e w now)/\(jhy C T k e w now).most=T.most:=by
 unfold jhy;split
 .rename_i h0;obtain⟨h1,h2⟩:=qrc h0;refine h.keep k ?_ h1
  grind[qrd,qhh]
 simp_all
theorem TI.ev(h:TI id T)(now silent:Int):TI id (T.ev now silent)/\(T.ev now silent).most=T.most:=by
 have key:∀r,TI id ⟨T.most,evE T.E (evP now silent) r,T.lives⟩:=λr=>by
  induction r with
  | zero=>exact h
  | succ r ih=>
   unfold evE;split
   .exact ih.dels _
   .exact ih
 exact⟨key _,rfl⟩
structure FI(F:Flr):Prop where
 yes:F.valid=true->F.e.may/\F.e.tr<=F.most
 no:F.valid=false->F.e=El.o
variable{F:Flr}
theorem FI.set(h:FI F)(e:El):FI (F.set e)/\(F.set e).most=F.most:=by
 unfold Flr.set;split
 .rename_i h1;exact⟨⟨λ_=>h1,λh=>by cases h⟩,rfl⟩
 simp_all
theorem FI.took(h:FI F){r:El×Int}(hv:F.valid=true)(hr:r.2=0->r.1.may/\r.1.tr<=F.e.tr):FI (F.took r)/\(F.took r).most=F.most:=by
 unfold Flr.took;split
 .rename_i h0;have:=hr h0;have h2:=h.yes hv;exact⟨⟨λ_=>⟨this.1,by show r.1.tr<=F.most;omega⟩,λhn=>by rw[show F.valid=false from hn] at hv;cases hv⟩,rfl⟩
 .split
  .exact⟨⟨(λh=>by cases h),λ_=>rfl⟩,rfl⟩
  simp_all
variable{e:El}
theorem qu9{of:Int->El×Int}{more:List El}(h:(qbn e of more).2=0):(qbn e of more).1.tr<=e.tr:=by
 rcases qh4 (λ_=>True) xb (λ_ _ _=>trivial) (λ_ _=>trivial) (show qbn e of more=((qbn e of more).1,(qbn e of more).2) from rfl) with ⟨_,_,h1⟩|⟨h1,_⟩
 .exact h1
 .omega
theorem q0y{f:El}(h:(jes e f).2=0):(jes e f).1.tr<=e.tr:=by
 unfold jes at h ⊢;split at h
 .rename_i h1;rw[if_pos h1];exact qu9 h
 omega
theorem jdz{s:Strip}(h:(jf4 e s).2=0):(jf4 e s).1.tr<=e.tr:=by
 unfold jf4 at h ⊢;split at h
 .rename_i h1;rw[if_pos h1];exact qu9 h
 omega
theorem q9w(e n:El)(hi:Int)(h:(jft e n hi).2≠3):(jft e n hi).1.tr<=e.tr:=by
 unfold jft at h ⊢;repeat' split
 .simp_all
 .rename_i h2;exact q0y h2
 .simp
 simp
theorem q4p(e n:El)(lo hi:Int)(h:(qcd e n lo hi).2≠3):(qcd e n lo hi).1.tr<=e.tr:=by
 unfold qcd at h ⊢;repeat' split
 .simp_all
 .simp_all
 .rename_i h3;exact jdz h3
 .simp
 simp
theorem q0z{n:El}{lo hi:Int}(h:(qbm e n lo hi).2=0):(qbm e n lo hi).1.tr<=e.tr:=by
 unfold qbm at h ⊢;split at h
 .rename_i h1;rw[if_pos h1];split at h
  .omega
  .rename_i h2;rw[if_neg h2];have h3:=q9w e n hi h2;have h4:=q4p (jft e n hi).1 n lo hi Q8E;omega
 omega
theorem FI.range(h:FI F)(n:El)(lo hi:Int):FI (F.range n lo hi)/\(F.range n lo hi).most=F.most:=by
 unfold Flr.range;split
 .rename_i hv;exact h.took hv λh0=>⟨qwj _ _ _ _ (h.yes hv).1 h0,q0z h0⟩
 .split
  .exact h.set _
  simp_all
theorem FI.meet(h:FI F)(he:e.may):FI (F.meet e)/\(F.meet e).most=F.most:=by
 unfold Flr.meet;split
 .rename_i hv;refine h.took hv λh0=>⟨?_,q0y h0⟩
  rcases qgu (h.yes hv).1 he with h1|h1
  .exact h1.2
  simp_all
 .exact h.set _
theorem FI.measured(h:FI F)(T:Tbl)(k ra db da rb stamp now:Int):FI (qc1 D F T k ra db da rb stamp now)/\(qc1 D F T k ra db da rb stamp now).most=F.most:=by
 unfold qc1;split
 .exact h.range _ _ _
 simp_all
structure HI(h:Half):Prop where
 one:h.st=1->je6 h.fr
 two:h.st=2->je6 h.fr/\je6 h.to/\h.fr<=h.to
theorem HI.o:HI Half.o:=⟨λh=>Q94,λh=>Q94⟩
theorem HI.beg(t m p:Int):HI (jkf t m p):=by
 unfold jkf;split
 .rename_i h;exact⟨λ_=>h,λh=>Q94⟩
 .exact HI.o
theorem HI.ans{h:Half}(ok:HI h)(t:Int):HI (h.ans t):=by
 unfold Half.ans;split
 .rename_i h1;exact⟨λh=>Q94,λ_=>⟨ok.one h1.1,h1.2.1,h1.2.2⟩⟩
 .exact ok
def SI(S:Nat->Ses):Prop:=∀m,HI (S m).a
theorem SI.upd{S:Nat->Ses}(h:SI S)(m:Nat){x:Ses}(hx:HI x.a):SI (upd S m x):=λk=>by
 unfold Sx.upd;split
 .exact hx
 .exact h k
structure NI(s:NSt):Prop where
 C2:0<=s.C 2/\s.C 2<=1000
 C7:1<=s.C 7/\s.C 7<=10000
 id:0<=s.id/\s.id<64
 boot:0<=s.boot/\s.boot<=65535
 seq:0<=s.seq
 bn:0<s.bn/\s.bn<=100
 bl:0<=s.bl/\s.bl<=s.bn
 te:1<=s.te/\s.te<=1000
 bad:0<=s.bad/\s.bad<=1000000
 F:FI s.fi
 T:TI s.id s.T
 S:SI s.S
theorem NI.hearOK{s:NSt}(h:NI s)(hs:s.seq<65535):NdH s:=
 ⟨h.C2,⟨h.bl.1,by have:=h.bl;have:=h.bn;omega⟩,⟨h.seq,hs⟩,h.boot,h.bad,λhv=>(h.F.yes hv).1,h.T.ok⟩
structure OI(n:NSt)(q:Int)(now fine:Int)(x:Ou):Prop where
 may:x.f.may
 s:x.f.s=n.id
 b:x.f.b=n.boot
 q:x.f.q=q
 st:x.f.st=now
 t:x.t=fine
theorem jl4:Frm.bare Frm.o:=⟨rfl,rfl,rfl,rfl,rfl,rfl,rfl,rfl,rfl,rfl⟩
variable{b q:Int}
theorem jd0{s st ds t1:Int}(h:(0<=s/\s<64)/\(0<=b/\b<=65535)/\(0<=q/\q<=65535)/\(0<=st/\st<=1000000))(hw:0<=ds/\ds<64)(hn:¬ ds=s)(ht:0<=t1/\t1<=4294967295):Frm.may ⟨3,s,b,q,st,ds,t1,0,0,0,0,0,0,0,0⟩:=⟨⟨hw,hn,ht⟩,h,jl4⟩
theorem jd1{s st ds t1 t2 wn:Int}(h:(0<=s/\s<64)/\(0<=b/\b<=65535)/\(0<=q/\q<=65535)/\(0<=st/\st<=1000000))(hw:0<=ds/\ds<64)(hn:¬ ds=s)(h1:0<=t1/\t1<=70368744177664)(h2:0<=t2/\t2<=70368744177664)(h3:0<=wn/\wn<=4294967295):Frm.may ⟨4,s,b,q,st,ds,t1,t2,0,wn,0,0,0,0,0⟩:=⟨⟨hw,hn,h1,h2,h3⟩,h,jl4⟩
theorem qva{f:Frm}(h:f.may):f.head:=h.2.1
theorem jl5{f:Frm}(h:f.may):0<=f.mk'/\f.mk'<=4294967295:=by
 obtain⟨h1,h2,h3,h4⟩:=qva h
 grind[Frm.mk']
structure RI(D:NdS)(l:Int)(F:Flr)(T:Tbl)(now fine:Int)(r:HrS):Prop where
 S:SI r.S
 F:FI r.F/\r.F.most=F.most
 T:r.T=T
 o:(r.o=none/\r.seq=D.seq/\r.l=l)\/∃x,r.o=some x/\0<l/\r.seq=D.seq+1/\r.l=l-1/\x.t=fine/\x.f.may/\x.f.s=D.id/\x.f.b=D.boot/\x.f.q=D.seq/\x.f.st=now
variable{l fine:Int}
theorem q9x{f:Frm}{at_ now:Int}(hS:SI D.S)(hF:FI F)(hl:0<=l)(hf:f.may)(hd:(0<=D.id/\D.id<64)/\(0<=D.boot/\D.boot<=65535)/\(0<=D.seq/\D.seq<=65535)/\(0<=now/\now<=1000000))(hn:¬ f.s=D.id):RI D l F T now fine (jhd D l F T m f at_ now fine):=by
 unfold jhd;have h1:SI (upd D.S m ((D.S m).gotPoll at_ f.st)):=hS.upd m (hS m);split
 .exact⟨h1,⟨hF,rfl⟩,rfl,.inl ⟨rfl,rfl,rfl⟩⟩
 .refine⟨h1.upd m ?_,⟨hF,rfl⟩,rfl,.inr ⟨_,rfl,by omega,rfl,rfl,rfl,jd0 hd (qva hf).1 hn (jl5 hf),rfl,rfl,rfl,rfl⟩⟩;unfold Ses.resp;split
  .exact h1 m
  .exact h1 m
theorem q9y{s:Ses}(h:HI s.a)(t:Int):HI (s.final t).a:=by
 grind[Ses.final,HI.o]
theorem q00{s:Ses}(h:HI s.a)(t m:Int):HI (s.gotResp t m).a:=by
 unfold Ses.gotResp;split
 .exact h.ans t
 .exact h
theorem qri{a:Int}(ha:je6 a)(hb:je6 b)(h:b<=a):0<=IntKind.i64.wrap (a-b)/\IntKind.i64.wrap (a-b)<=70368744177664:=by
 grind[je6,jep]
theorem upd_at{α:Type}(S:Nat->α)(m:Nat)(x:α):upd S m x m=x:=if_pos rfl
theorem q9z{f:Frm}{at_ now:Int}(hS:SI D.S)(hF:FI F)(hl:0<=l)(hf:f.may)(hd:(0<=D.id/\D.id<64)/\(0<=D.boot/\D.boot<=65535)/\(0<=D.seq/\D.seq<=65535)/\(0<=now/\now<=1000000))(hn:¬ f.s=D.id):RI D l F T now fine (jg0 D l F T m f at_ now fine):=by
 unfold jg0;have h1:SI (upd D.S m ((D.S m).gotResp at_ f.t1)):=hS.upd m (q00 (hS m) _ _);have h2:=h1 m;split
 .split
  .rename_i he;have h3:SI (upd (upd D.S m ((D.S m).gotResp at_ f.t1)) m ((upd D.S m ((D.S m).gotResp at_ f.t1) m).final fine)):=h1.upd m (q9y h2 _);obtain⟨e1,e2,e3⟩:=he;obtain⟨t1,t2,t3⟩:=h2.two e1;split
   .exact⟨h3,⟨hF,rfl⟩,rfl,.inl ⟨rfl,rfl,rfl⟩⟩
   .exact⟨h3,⟨hF,rfl⟩,rfl,.inr ⟨_,rfl,by omega,rfl,rfl,rfl,jd1 hd (qva hf).1 hn (qri t2 t1 t3) (qri e2 t2 e3) (jl5 hf),rfl,rfl,rfl,rfl⟩⟩
  .exact⟨h1.upd m h2,⟨hF,rfl⟩,rfl,.inl ⟨rfl,rfl,rfl⟩⟩
 .exact⟨hS.upd m (hS m),⟨hF,rfl⟩,rfl,.inl ⟨rfl,rfl,rfl⟩⟩
theorem q4q{f:Frm}{at_ now:Int}(hS:SI D.S)(hF:FI F):RI D l F T now fine (qm5 D l F T m f at_ now):=by
 unfold qm5;split
 .refine⟨hS.upd m ?_,hF.measured _ _ _ _ _ _ _ _,rfl,.inl ⟨rfl,rfl,rfl⟩⟩;unfold Ses.gotFinal;split
  .exact hS m
  .exact hS m
 .exact⟨hS.upd m (hS m),⟨hF,rfl⟩,rfl,.inl ⟨rfl,rfl,rfl⟩⟩
structure KI(D:NdS)(l:Int)(F:Flr)(T:Tbl)(now fine:Int)(r:HrS):Prop where
 S:SI r.S
 F:FI r.F/\r.F.most=F.most
 T:TI D.id r.T/\r.T.most=T.most
 o:(r.o=none/\r.seq=D.seq/\r.l=l)\/∃x,r.o=some x/\0<l/\r.seq=D.seq+1/\r.l=l-1/\x.t=fine/\x.f.may/\x.f.s=D.id/\x.f.b=D.boot/\x.f.q=D.seq/\x.f.st=now
theorem q90{f:Frm}{at_ now:Int}(hS:SI D.S)(hF:FI F)(hT:TI D.id T)(hl:0<=l)(hf:f.may)(hd:(0<=D.id/\D.id<64)/\(0<=D.boot/\D.boot<=65535)/\(0<=D.seq/\D.seq<=65535)/\(0<=now/\now<=1000000))(hn:¬ f.s=D.id):KI D l F T now fine (jfu D l F T m f at_ now fine):=by
 have no:∀F' T',(FI F'/\F'.most=F.most)->(TI D.id T'/\T'.most=T.most)->KI D l F T now fine (D.no l F' T'):=λF' T' h1 h2=>⟨hS,h1,h2,.inl ⟨rfl,rfl,rfl⟩⟩
 have ri:∀r,RI D l F T now fine r->KI D l F T now fine r:=λr h=>⟨h.S,h.F,by rw[h.T];exact⟨hT,rfl⟩,h.o⟩
 unfold jfu;split
 .exact no _ _ ⟨hF,rfl⟩ (hT.putE _ _ _ _ _)
 split
 .refine no _ _ ?_ ?_
  .unfold qby;split
   .show FI (if _ then _ else _)/\Flr.most (if _ then _ else _)=_;split
    .rename_i h0;exact hF.meet (qrc h0).2
    simp_all
   simp_all
  .unfold qby;split
   .simp_all
   .show TI D.id (match dGet T.E f.wh with|some _=>_|none=>_)/\Tbl.most (match dGet T.E f.wh with|some _=>_|none=>_)=_;split
    .exact hT.putE _ _ _ _ _
    simp_all
 split
 .grind[qbq,q9x,q9z,q4q]
 split
 .exact no _ _ ⟨hF,rfl⟩ (hT.leave _)
 simp_all
structure Same(s s':NSt):Prop where
 C:s'.C=s.C
 id:s'.id=s.id
 boot:s'.boot=s.boot
 told:s'.told=s.told
 fm:s'.fm=s.fm
 bn:s'.bn=s.bn
 te:s'.te=s.te
 tm:s'.T.most=s.T.most
theorem Same.refl(s:NSt):Same s s:=⟨rfl,rfl,rfl,rfl,rfl,rfl,rfl,rfl⟩
theorem q91{s:NSt}(h:NI s)(hs:s.seq<65535)(bs:List Int)(at_ now fine:Int):NI (hearP s bs at_ now fine).s/\Same s (hearP s bs at_ now fine).s/\(((hearP s bs at_ now fine).o=none/\(hearP s bs at_ now fine).s.seq=s.seq/\(hearP s bs at_ now fine).s.bl=s.bl)\/∃x,(hearP s bs at_ now fine).o=some x/\(hearP s bs at_ now fine).e=0/\0<s.bl/\(hearP s bs at_ now fine).s.seq=s.seq+1/\(hearP s bs at_ now fine).s.bl=s.bl-1/\OI s s.seq now fine x):=by
 have id0:∀e,NI (HeardS.mk s none e).s/\Same s (HeardS.mk s none e).s/\(((HeardS.mk s none e).o=none/\(HeardS.mk s none e).s.seq=s.seq/\(HeardS.mk s none e).s.bl=s.bl)\/∃x,(HeardS.mk s none e).o=some x/\(HeardS.mk s none e).e=0/\0<s.bl/\(HeardS.mk s none e).s.seq=s.seq+1/\(HeardS.mk s none e).s.bl=s.bl-1/\OI s s.seq now fine x):=λe=>⟨h,Same.refl s,.inl ⟨rfl,rfl,rfl⟩⟩
 unfold hearP;split
 .exact id0 _
 rename_i ht;split
 .exact⟨⟨h.C2,h.C7,h.id,h.boot,h.seq,h.bn,h.bl,h.te,⟨by show 0<=min _ _;have:=h.bad;omega,by show min _ _<=_;omega⟩,h.F,h.T,h.S⟩,⟨rfl,rfl,rfl,rfl,rfl,rfl,rfl,rfl⟩,.inl ⟨rfl,rfl,rfl⟩⟩
 rename_i hd;split
 .exact id0 _
 rename_i ho;split
 .exact id0 _
 have hm:=qsy (show(decF bs).2=0 by omega);obtain⟨g1,g2,g3,g4⟩:=qva hm;have hT:=h.T.hear (decF bs).1.b (decF bs).1.q now g1 ho;split
 .exact⟨⟨h.C2,h.C7,h.id,h.boot,h.seq,h.bn,h.bl,h.te,h.bad,h.F,hT.1,h.S⟩,⟨rfl,rfl,rfl,rfl,rfl,rfl,rfl,hT.2⟩,.inl ⟨rfl,rfl,rfl⟩⟩
 have k:=q90 (D:=s.nd λ_=>(0,0)) (l:=s.bl) (F:=s.fi) (m:=(decF bs).1.s.toNat) (at_:=at_) (now:=now) (fine:=fine) h.S h.F hT.1 h.bl.1 hm ⟨h.id,h.boot,⟨h.seq,by show s.seq<=_;omega⟩,by omega⟩ ho;change KI _ _ _ _ _ _ (s.tk (hearT s.T (decF bs).1.s (decF bs).1.b (decF bs).1.q now).2 (decF bs).1 at_ now fine) at k;generalize s.tk (hearT s.T (decF bs).1.s (decF bs).1.b (decF bs).1.q now).2 (decF bs).1 at_ now fine=r at k ⊢;obtain⟨kS,kF,kT,ko⟩:=k;refine⟨⟨h.C2,h.C7,h.id,h.boot,?_,h.bn,?_,h.te,h.bad,kF.1,kT.1,kS⟩,⟨rfl,rfl,rfl,rfl,kF.2,rfl,rfl,kT.2.trans hT.2⟩,?_⟩
 .show 0<=r.seq;rcases ko with ⟨_,h1,_⟩|⟨x,_,_,h1,_⟩
  .rw[h1];exact h.seq
  .rw[h1];have:=h.seq;show 0<=s.seq+1;omega
 .show 0<=r.l/\r.l<=s.bn;have:=h.bl;omega
 .rcases ko with ⟨h1,h2,h3⟩|⟨x,h1,h2,h3,h4,h5,h6,h7,h8,h9,h10⟩
  .exact .inl ⟨h1,h2,h3⟩
  .exact .inr ⟨x,h1,rfl,h2,h3,h4,⟨h6,h7,h8,h9,h10,h5⟩⟩
def OL(s:NSt)(now fine:Int):Int->List Ou->Prop
 | _,[]=>True
 | q,x::l=>OI s q now fine x/\OL s now fine (q+1) l
theorem qox(n c:Int)(hc:0<=c/\c<256):jg2 n c=IntKind.i64.wrap (n*256+c):=by
 unfold jg2;rw[BitVec.toNat_or,ze,ze];have hA:(IntKind.i64.wrap (n*2^8)%((2^IntKind.i64.bits:Nat):Int)).toNat=2^8*(n%72057594037927936).toNat:=by
  show(IntKind.i64.wrap (n*256)%18446744073709551616).toNat=256*(n%72057594037927936).toNat;rw[xw];omega
 have hC:(c%((2^IntKind.i64.bits:Nat):Int)).toNat=c.toNat:=by
  show(c%18446744073709551616).toNat=c.toNat;omega
 rw[hA,hC,<-zz (i:=8) Q8E];rw[xw,xw];omega
theorem q01(n c:Int):IntKind.i64.wrap (IntKind.i64.wrap n*256+c)=IntKind.i64.wrap (n*256+c):=by
 rw[xw,xw,xw];omega
def numBs(l:List Int):Int:=l.foldl (λn c=>n*256+c) 0
theorem q02(l:List Int)(hl:∀c∈l,0<=c/\c<256):takeN l=IntKind.i64.wrap (numBs l):=by
 unfold takeN numBs;have key:∀(l:List Int)(a b:Int),(∀c∈l,0<=c/\c<256)->a=IntKind.i64.wrap b->l.foldl jg2 a=IntKind.i64.wrap (l.foldl (λn c=>n*256+c) b):=by
  intro l
  induction l with
  | nil=>exact λa b _ h=>h
  | cons c l ih=>
   intro a b hc h;refine ih _ _ (λx hx=>hc x (yI _ hx)) ?_;rw[qox a c (hc c (zl ..)),h,q01]
 exact key l 0 0 hl rfl
theorem q03(l:List Int)(c:Int):numBs (l++[c])=numBs l*256+c:=by simp[numBs]
theorem jo9{m k:Int}(h:0<=n):m / n / k=m / (n*k):=by
 first|exact Int.ediv_ediv_of_nonneg h|exact Int.ediv_ediv_eq_ediv_mul m h|(rw[Int.ediv_ediv,if_neg Q8E,Int.sub_zero])
theorem q04(m P:Int)(hP:0<P):m / 256%P*256+m%256=m%(P*256):=by
 obtain⟨q,hq⟩:∃q,q=m / 256:=⟨_,rfl⟩;obtain⟨r,hr⟩:∃r,r=m%256:=⟨_,rfl⟩;have h1:m=256*q+r:=by omega
 have hr0:0<=r/\r<256:=by omega
 rw[<-hq,<-hr];clear hq hr;have h2:=Int.emod_add_mul_ediv q P;have h3:=Int.emod_nonneg q (by omega:P≠0);have h4:=Int.emod_lt_of_pos q hP;generalize q%P=t at *;generalize q / P=u at *;have e:m=(t*256+r)+(P*256)*u:=by rw[h1,<-h2];grind
 rw[e,Int.add_mul_emod_self_left];exact(Int.emod_eq_of_lt Q8E Q8E).symm
theorem jd2(n:Int)(w:Nat):∀k,k<=w->numBs (beK n w k)=n / 256^(w-k)%256^k:=by
 intro k
 induction k with
 | zero=>intro _;show(0:Int)=_%1;omega
 | succ k ih=>
  intro h;rw[beK,q03,ih Q8E,qi9,show w-1-k=w-(k+1) by omega,show w-k=w-(k+1)+1 by omega,Int.pow_succ,<-jo9 (Int.pow_nonneg Q8I),Int.pow_succ];exact q04 _ _ (Int.pow_pos Q8I)
theorem jl6(n:Int)(w:Nat):∀k,∀c∈beK n w k,0<=c/\c<256:=by
 intro k
 induction k with
 | zero=>intro c h;cases h
 | succ k ih=>
  intro c h;rw[beK] at h;rcases yJ.1 h with h|h
  .exact ih c h
  .obtain rfl:=yt.1 h;unfold qi9;omega
theorem ql2(n:Int)(w:Nat):takeN (be n w)=IntKind.i64.wrap (n%256^w):=by
 rw[q02 _ (jl6 n w w),jd2 n w w (nlr _),Nat.sub_self];show IntKind.i64.wrap (n / 1%_)=_;rw[Int.ediv_one]
theorem qkm(h:0<=n/\n<256):takeN (be n 1)=n:=by
 rw[ql2];show IntKind.i64.wrap (n%256)=n;rw[xw];omega
theorem qvb(h:0<=n/\n<=65535):takeN (be n 2)=n:=by
 rw[ql2];show IntKind.i64.wrap (n%65536)=n;rw[xw];omega
theorem qvc(h : -2147483648<=n/\n<2147483648):IntKind.i64.wrap (IntKind.i32.wrap (takeN (be n 4)))=n:=by
 rw[ql2];show IntKind.i64.wrap (IntKind.i32.wrap (IntKind.i64.wrap (n%4294967296)))=n;rw[xw,xw,wrap_i32];omega
theorem q05(h:0<=n/\n<4294967296):takeN (be n 4)=n:=by
 rw[ql2];show IntKind.i64.wrap (n%4294967296)=n;rw[xw];omega
theorem qf6(h : -9223372036854775808<=n/\n<=9223372036854775807):takeN (be n 8)=n:=by
 rw[ql2];show IntKind.i64.wrap (n%18446744073709551616)=n;rw[xw];omega
theorem qc7{l m:List Int}{n:Nat}(h:l.length=n):(l++m).drop n=m:=by subst h;simp
theorem qc2{l m:List Int}{n:Nat}(h:l.length=n):(l++m).take n=l:=by subst h;simp
structure jpa(f:Frm):Prop where
 k:0<=f.k/\f.k<256
 s:0<=f.s/\f.s<256
 ds:0<=f.ds/\f.ds<256
 wh:0<=f.wh/\f.wh<256
 b:0<=f.b/\f.b<=65535
 q:0<=f.q/\f.q<=65535
 st:Fi f.st
 t1:Fi f.t1
 t2:Fi f.t2
 wn:Fi f.wn
 x : -2147483648<=f.x/\f.x<2147483648
 y : -2147483648<=f.y/\f.y<2147483648
 a:Fi f.a
 c:Fi f.c
 d:Fi f.d
abbrev encF(f:Frm):List Int:=jjh f.k f.s f.b f.q f.st f.ds f.t1 f.t2 f.wh f.wn f.x f.y f.a f.c f.d
abbrev hdF(f:Frm):List Int:=jky f.k f.s f.b f.q f.st f.ds f.t1 f.t2 f.wh f.wn f.x f.y f.a f.c f.d
theorem qvd(f:Frm):(hdF f).length=76:=by
 unfold hdF jky;simp only[yr,qbd,yZ,List.length_nil]
theorem q92(f:Frm):(encF f).length=80:=by
 show(hdF f++be _ 4).length=80;rw[yr,qvd,qbd]
theorem q93(a b:Int):0<=jfp a b/\jfp a b<4294967296:=by
 unfold jfp;rw[wrap_u32];omega
theorem q94(f:Frm)(h:jpa f):jjj (encF f)=f:=by
 obtain⟨k,s,b,q,st,ds,t1,t2,wh,wn,x,y,a,c,d⟩:=f;obtain⟨hk,hs,hds,hwh,hb,hq,hst,ht1,ht2,hwn,hx,hy,ha,hc,hd⟩:=h;simp only at hk hs hds hwh hb hq hst ht1 ht2 hwn hx hy ha hc hd;generalize hE:encF ⟨k,s,b,q,st,ds,t1,t2,wh,wn,x,y,a,c,d⟩=E;obtain⟨T,hT⟩:∃T,E=[97,108,105,49]++(be k 1++(be s 1++(be ds 1++(be wh 1++(be b 2++(be q 2++(be st 8++(be t1 8++(be t2 8++(be wn 8++(be x 4++(be y 4++(be a 8++(be c 8++( (be d 8++T)))))))))))))))):=⟨_,by rw[<-hE];unfold encF jjh jky;simp only[List.append_assoc];rfl⟩;clear hE;have D0:E.drop 4=be k 1++(be s 1++(be ds 1++(be wh 1++(be b 2++(be q 2++(be st 8++(be t1 8++(be t2 8++(be wn 8++(be x 4++(be y 4++(be a 8++(be c 8++(be d 8++T)))))))))))))):=by rw[hT];exact qc7 rfl
 have D1:E.drop 5=be s 1++(be ds 1++(be wh 1++(be b 2++(be q 2++(be st 8++(be t1 8++(be t2 8++(be wn 8++(be x 4++(be y 4++(be a 8++(be c 8++(be d 8++T))))))))))))):=by rw[show 5=4+1 from rfl,<-yj,D0];exact qc7 (qbd _ _)
 have D2:E.drop 6=be ds 1++(be wh 1++(be b 2++(be q 2++(be st 8++(be t1 8++(be t2 8++(be wn 8++(be x 4++(be y 4++(be a 8++(be c 8++(be d 8++T)))))))))))):=by rw[show 6=5+1 from rfl,<-yj,D1];exact qc7 (qbd _ _)
 have D3:E.drop 7=be wh 1++(be b 2++(be q 2++(be st 8++(be t1 8++(be t2 8++(be wn 8++(be x 4++(be y 4++(be a 8++(be c 8++(be d 8++T))))))))))):=by rw[show 7=6+1 from rfl,<-yj,D2];exact qc7 (qbd _ _)
 have D4:E.drop 8=be b 2++(be q 2++(be st 8++(be t1 8++(be t2 8++(be wn 8++(be x 4++(be y 4++(be a 8++(be c 8++(be d 8++T)))))))))):=by rw[show 8=7+1 from rfl,<-yj,D3];exact qc7 (qbd _ _)
 have D5:E.drop 10=be q 2++(be st 8++(be t1 8++(be t2 8++(be wn 8++(be x 4++(be y 4++(be a 8++(be c 8++(be d 8++T))))))))):=by rw[show 10=8+2 from rfl,<-yj,D4];exact qc7 (qbd _ _)
 have D6:E.drop 12=be st 8++(be t1 8++(be t2 8++(be wn 8++(be x 4++(be y 4++(be a 8++(be c 8++(be d 8++T)))))))):=by rw[show 12=10+2 from rfl,<-yj,D5];exact qc7 (qbd _ _)
 have D7:E.drop 20=be t1 8++(be t2 8++(be wn 8++(be x 4++(be y 4++(be a 8++(be c 8++(be d 8++T))))))):=by rw[show 20=12+8 from rfl,<-yj,D6];exact qc7 (qbd _ _)
 have D8:E.drop 28=be t2 8++(be wn 8++(be x 4++(be y 4++(be a 8++(be c 8++(be d 8++T)))))):=by rw[show 28=20+8 from rfl,<-yj,D7];exact qc7 (qbd _ _)
 have D9:E.drop 36=be wn 8++(be x 4++(be y 4++(be a 8++(be c 8++(be d 8++T))))):=by rw[show 36=28+8 from rfl,<-yj,D8];exact qc7 (qbd _ _)
 have D10:E.drop 44=be x 4++(be y 4++(be a 8++(be c 8++(be d 8++T)))):=by rw[show 44=36+8 from rfl,<-yj,D9];exact qc7 (qbd _ _)
 have D11:E.drop 48=be y 4++(be a 8++(be c 8++(be d 8++T))):=by rw[show 48=44+4 from rfl,<-yj,D10];exact qc7 (qbd _ _)
 have D12:E.drop 52=be a 8++(be c 8++(be d 8++T)):=by rw[show 52=48+4 from rfl,<-yj,D11];exact qc7 (qbd _ _)
 have D13:E.drop 60=be c 8++(be d 8++T):=by rw[show 60=52+8 from rfl,<-yj,D12];exact qc7 (qbd _ _)
 have D14:E.drop 68=be d 8++T:=by rw[show 68=60+8 from rfl,<-yj,D13];exact qc7 (qbd _ _)
 unfold jjj;rw[D0,D1,D2,D3,D4,D5,D6,D7,D8,D9,D10,D11,D12,D13,D14];rw[qc2 (qbd k 1),qc2 (qbd s 1),qc2 (qbd ds 1),qc2 (qbd wh 1),qc2 (qbd b 2),qc2 (qbd q 2),qc2 (qbd st 8),qc2 (qbd t1 8),qc2 (qbd t2 8),qc2 (qbd wn 8),qc2 (qbd x 4),qc2 (qbd y 4),qc2 (qbd a 8),qc2 (qbd c 8),qc2 (qbd d 8)];rw[qkm hk,qkm hs,qkm hds,qkm hwh,qvb hb,qvb hq,qf6 hst,qf6 ht1,qf6 ht2,qf6 hwn,qvc hx,qvc hy,qf6 ha,qf6 hc,qf6 hd]
theorem q95(f:Frm)(h:jpa f)(hm:f.may):decF (encF f)=(f,0):=by
 have hl:=q92 f;have h4:(encF f).take 4=[97,108,105,49]:=by
  show(hdF f++_).take 4=_;rw[List.take_append_of_le_length (by rw[qvd];decide)];show([97,108,105,49]++_++_++_++_++_++_++_++_++_++_++_++_++_++_++_).take 4=_;simp only[List.append_assoc];exact qc2 rfl
 have h76:(encF f).take 76=hdF f:=qc2 (qvd f);have hd76:(encF f).drop 76=be (IntKind.i64.wrap (sumN (hdF f))) 4:=qc7 (qvd f);unfold decF;rw[if_neg Q8E,if_neg Q8E,if_neg (by rw[h4];exact λh=>h rfl),hd76,h76,List.take_of_length_le (by rw[qbd];exact nlr _)];have hs:0<=sumN (hdF f)/\sumN (hdF f)<4294967296:=q93 _ _;have e:IntKind.i64.wrap (sumN (hdF f))=sumN (hdF f):=jep _ Q8E Q8E;rw[e,q05 hs,if_neg (λh=>h rfl),q94 f h,if_pos hm]
open Go Go.RowKit Sx
theorem n9:(9:Int)≠0:=by decide
theorem n1:(1:Int)≠0:=by decide
theorem o1:1 &&& 1≠(0:Nat):=by decide
theorem qrj(q:Int):je1 q q=0:=by
 unfold je1;split
 .rw[Int.sub_self];rfl
 .rfl
theorem q4r(q:Int):bitW q q=1:=by
 unfold bitW;rw[qrj];rfl
theorem q6b(s b:Nat):(s ||| b) &&& b=b:=by
 apply Nat.eq_of_testBit_eq;intro i;rw[Nat.testBit_and,Nat.testBit_or];cases s.testBit i<;>cases b.testBit i<;>rfl
theorem qkn{W:Win}(h1:W.any=true)(h2:W.last=q)(h3:W.seen &&& 1≠0):(whear W q).1=9:=by
 unfold whear;rw[h2,qrj,q4r,if_neg (by rw[h1];decide),if_neg Q8I,if_neg Q8I,if_pos (.inr h3)]
theorem ql3(W:Win)(q:Int):(whear (whear W q).2 q).1=9:=by
 by_cases h1:W.any=false
 .have e:(whear W q).2=⟨true,q,1⟩:=by unfold whear;rw[if_pos h1]
  rw[e];exact qkn rfl rfl o1
 by_cases h2:je1 W.last q=32768
 .have e:whear W q=(9,W):=by unfold whear;rw[if_neg h1,if_pos h2]
  rw[e];show(whear W q).1=9;rw[e]
 by_cases h3:0<je1 W.last q
 .have e:(whear W q).2=⟨true,q,(W.seen*2^(je1 W.last q).toNat%18446744073709551616) ||| 1⟩:=by unfold whear;rw[if_neg h1,if_neg h2,if_pos h3]
  rw[e];exact qkn rfl rfl (by rw[q6b];decide)
 by_cases h4:bitW W.last q=0\/W.seen &&& bitW W.last q≠0
 .have e:whear W q=(9,W):=by unfold whear;rw[if_neg h1,if_neg h2,if_neg h3,if_pos h4]
  rw[e];show(whear W q).1=9;rw[e]
 .have e:(whear W q).2=⟨true,W.last,W.seen ||| bitW W.last q⟩:=by unfold whear;rw[if_neg h1,if_neg h2,if_neg h3,if_neg h4]
  rw[e];unfold whear;show(if true=false then _ else if je1 W.last q=32768 then _ else if 0<je1 W.last q then _ else if bitW W.last q=0\/(W.seen ||| bitW W.last q) &&& bitW W.last q≠0 then ((9:Int),_) else _:Int×Win).1=9;rw[if_neg Q8I,if_neg h2,if_neg h3,if_pos (.inr (by rw[q6b];exact λh=>h4 (.inl h)))]
def Told(T:Tbl)(n b q:Int):Prop:=∃l,T.lives n=some l/\l.boot=b/\(l.left=true\/(whear l.W q).1=9)
theorem q06(h:Told T n b q)(now:Int):(hearT T n b q now).1≠0/\(hearT T n b q now).2.E=T.E:=by
 obtain⟨l,h1,h2,h3⟩:=h;unfold hearT;split
 .rw[h1];show(if l.boot=b then _ else _:Int×Tbl).1≠0/\Tbl.E (if l.boot=b then _ else _:Int×Tbl).2=_;rw[if_pos h2];split
  .exact⟨n9,rfl⟩
  .rename_i hl;rcases h3 with h3|h3
   .exact absurd h3 hl
   .rw[if_neg (by rw[h3];decide)];exact⟨n9,rfl⟩
 .exact⟨n1,rfl⟩
theorem ql4(lv:Int->Option jf8)(n:Int)(l:jf8):je5 lv n l n=some l:=by unfold je5;rw[if_pos rfl]
theorem q07{now:Int}(h:(hearT T n b q now).1=0):Told (hearT T n b q now).2 n b q:=by
 unfold hearT at h ⊢;split
 .rename_i ha;rw[if_pos ha] at h;split
  .exact⟨_,ql4 _ _ _,rfl,.inr (qkn rfl rfl o1)⟩
  .rename_i l hl;rw[hl] at h;simp only at h;split
   .rename_i hb;rw[if_pos hb] at h;split
    .rename_i hc;rw[if_pos hc] at h;exact absurd h (by show ¬ (9:Int)=0;decide)
    .rename_i hc;rw[if_neg hc] at h;split
     .exact⟨_,ql4 _ _ _,rfl,.inr (ql3 _ _)⟩
     .exact Q4P
   .rename_i hb;rw[if_neg hb] at h;split
    .exact⟨_,ql4 _ _ _,rfl,.inr (qkn rfl rfl o1)⟩
    .exact Q4P
 .rename_i ha;rw[if_neg ha] at h;exact absurd h (by show ¬ (1:Int)=0;decide)
theorem q08{now:Int}(h:(hearT T n b q now).1≠0):(hearT T n b q now).2.E=T.E/\((hearT T n b q now).2=T\/Told (hearT T n b q now).2 n b q):=by
 unfold hearT at h ⊢;split
 .rename_i ha;rw[if_pos ha] at h;split
  .rename_i hl;rw[hl] at h;exact absurd rfl h
  .rename_i l hl;rw[hl] at h;simp only at h;split
   .rename_i hb;rw[if_pos hb] at h;split
    .exact⟨rfl,.inl rfl⟩
    .rename_i hc;rw[if_neg hc] at h;split
     .rename_i hd;rw[if_pos hd] at h;exact absurd rfl h
     .exact⟨rfl,.inr ⟨_,ql4 _ _ _,rfl,.inr (ql3 _ _)⟩⟩
   .rename_i hb;rw[if_neg hb] at h;split
    .rename_i hd;rw[if_pos hd] at h;exact absurd rfl h
    .exact⟨rfl,.inl rfl⟩
 .exact⟨rfl,.inl rfl⟩
theorem qws(T:Tbl)(k:Int)(g:El)(now:Int):(T.keep k g now).lives=T.lives:=by
 unfold Tbl.keep;split<;>rfl
theorem qrk(C:Nat->Int)(T:Tbl)(k:Int)(e:El)(w now:Int):(jhy C T k e w now).lives=T.lives:=by
 unfold jhy;split
 .exact qws _ _ _ _
 .rfl
theorem Told.lives{T':Tbl}(h:Told T n b q)(e:T'.lives=T.lives):Told T' n b q:=by
 unfold Told at *;rw[e];exact h
theorem q09{f:Frm}{at_ now:Int}(h:Told T f.s f.b f.q):Told (jfu D l F T m f at_ now fine).T f.s f.b f.q:=by
 unfold jfu;split
 .exact h.lives (qrk _ _ _ _ _ _)
 split
 .show Told (qby D F T f now).2 _ _ _;unfold qby;split
  .exact h
  .show Told (match dGet T.E f.wh with|some _=>_|none=>_) _ _ _;split
   .exact h.lives (qrk _ _ _ _ _ _)
   .exact h
 split
 .split
  .refine h.lives ?_;unfold qbq jhd jg0 qm5;repeat' split
   all_goals rfl
  .exact h
 split
 .show Told (T.leave f.s) _ _ _;obtain⟨lf,h1,h2,h3⟩:=h;unfold Tbl.leave;rw[h1];exact⟨_,ql4 _ _ _,h2,.inl rfl⟩
 .exact h
theorem qee{s:NSt}{at_ now:Int}(h:(hearP s bs at_ now fine).e≠0):(hearP s bs at_ now fine).o=none/\(hearP s bs at_ now fine).s.fi=s.fi/\(hearP s bs at_ now fine).s.T.E=s.T.E:=by
 unfold hearP at h ⊢;split
 .exact⟨rfl,rfl,rfl⟩
 rename_i h1;rw[if_neg h1] at h;split
 .exact⟨rfl,rfl,rfl⟩
 rename_i h2;rw[if_neg h2] at h;split
 .exact⟨rfl,rfl,rfl⟩
 rename_i h3;rw[if_neg h3] at h;split
 .exact⟨rfl,rfl,rfl⟩
 rename_i h4;rw[if_neg h4] at h;split
 .rename_i h5;exact⟨rfl,rfl,(q08 h5).1⟩
 rename_i h5;rw[if_neg h5] at h;exact absurd rfl h
theorem qa7{s:NSt}{at_ now:Int}(hC:s.C 4=1)(h:(decF bs).2≠0\/(decF bs).1.s=s.id\/now+2<(decF bs).1.st):(hearP s bs at_ now fine).e≠0:=by
 unfold hearP;split
 .exact n1
 split
 .rename_i h2;exact h2
 rename_i h2;split
 .exact n9
 rename_i h3;have hst:now+2<(decF bs).1.st:=by
  rcases h with h|h|h
  .exact absurd h h2
  .exact absurd h h3
  .exact h
 split
 .rename_i h4;exact h4
 rename_i h4;exfalso;apply h4;unfold qfr;rw[hC];split
 .split
  .decide
  .rw[if_pos Q8E];decide
 .decide
theorem qhk{s s2:NSt}{at_ at' now fine':Int}(h1:s2.T=(hearP s bs at_ now fine).s.T)(h2:s2.C=s.C)(h3:s2.id=s.id):(hearP s2 bs at' now fine').e≠0:=by
 unfold hearP at h1;by_cases g1:¬ (0<=now/\now<=1000000)
 .unfold hearP;rw[if_pos g1];exact n1
 rw[if_neg g1] at h1;by_cases g2:(decF bs).2≠0
 .unfold hearP;rw[if_neg g1,if_pos g2];exact g2
 rw[if_neg g2] at h1;by_cases g3:(decF bs).1.s=s.id
 .unfold hearP;rw[if_neg g1,if_neg g2,if_pos (g3.trans h3.symm)];exact n9
 rw[if_neg g3] at h1;by_cases g4:qfr (decF bs).1.st now (s.C 6) (s.C 4)≠0
 .unfold hearP;rw[if_neg g1,if_neg g2,if_neg (by rw[h3];exact g3),h2,if_pos g4];exact g4
 rw[if_neg g4] at h1;have key:(hearT s2.T (decF bs).1.s (decF bs).1.b (decF bs).1.q now).1≠0:=by
  by_cases g5:(hearT s.T (decF bs).1.s (decF bs).1.b (decF bs).1.q now).1≠0
  .rw[if_pos g5] at h1;have h1:s2.T=(hearT s.T (decF bs).1.s (decF bs).1.b (decF bs).1.q now).2:=h1;rw[h1];rcases(q08 g5).2 with e|e
   .rw[e];exact g5
   .exact(q06 e now).1
  .rw[if_neg g5] at h1;have h1:s2.T=(s.tk (hearT s.T (decF bs).1.s (decF bs).1.b (decF bs).1.q now).2 (decF bs).1 at_ now fine).T:=h1;rw[h1];exact(q06 (q09 (q07 (Classical.not_not.1 g5))) now).1
 unfold hearP;rw[if_neg g1,if_neg g2,if_neg (by rw[h3];exact g3),h2,if_neg g4,if_pos key];exact key
theorem jpb(h:0<=n/\n<64):0<=n/\n<256:=by omega
theorem f0:(0:Int)<=0/\(0:Int)<256:=by decide
theorem g0:(-2147483648:Int)<=0/\(0:Int)<2147483648:=by decide
theorem fi0:Fi 0:=⟨by decide,by decide⟩
theorem q6c(h:e.may):(-2147483648<=e.x/\e.x<2147483648)/\(-2147483648<=e.y/\e.y<2147483648)/\Fi e.a/\Fi e.b/\Fi e.d:=by
 obtain⟨⟨h1,h2⟩,h3,h4,h5,_⟩:=h;exact⟨by omega,by omega,⟨by omega,by omega⟩,⟨by omega,by omega⟩,⟨by omega,by omega⟩⟩
theorem q4s{f:Frm}(h:f.may):jpa f:=by
 obtain⟨k,s,b,q,st,ds,t1,t2,wh,wn,x,y,a,c,d⟩:=f;have hk:k=1\/k=2\/k=3\/k=4\/k=5\/k=6\/k=7:=by
  have h0:=h.1;unfold Frm.own at h0;simp only at h0;refine Classical.byContradiction λhn=>?_
  rw[if_neg Q8E,if_neg Q8E,if_neg Q8E,if_neg Q8E,if_neg Q8E,if_neg Q8E,if_neg Q8E] at h0;exact h0
 have hst:Fi st:=by have:=h.2.1.2.2.2;have:0<=st/\st<=1000000:=this;exact⟨by omega,by omega⟩
 have hs:0<=s/\s<256:=by have:0<=s/\s<64:=h.2.1.1;omega
 have hb:0<=b/\b<=65535:=h.2.1.2.1;have hq:0<=q/\q<=65535:=h.2.1.2.2.1;have hk256:0<=k/\k<256:=by omega
 rcases hk with rfl|rfl|rfl|rfl|rfl|rfl|rfl
 .exact Q3X
 .obtain⟨⟨h1,_⟩,_,_,rfl,rfl,rfl,rfl,rfl,rfl,rfl,rfl,rfl⟩:=h;exact⟨hk256,hs,jpb h1,f0,hb,hq,hst,fi0,fi0,fi0,g0,g0,fi0,fi0,fi0⟩
 .obtain⟨⟨h1,_,h2⟩,_,_,_,rfl,rfl,rfl,rfl,rfl,rfl,rfl,rfl⟩:=h;exact⟨hk256,hs,jpb h1,f0,hb,hq,hst,⟨by have:0<=t1:=h2.1;show _<=t1;omega,by have:t1<=4294967295:=h2.2;show t1<=_;omega⟩,fi0,fi0,g0,g0,fi0,fi0,fi0⟩
 .obtain⟨⟨h1,_,h2,h3,h4⟩,_,_,_,_,rfl,_,rfl,rfl,rfl,rfl,rfl⟩:=h;exact⟨hk256,hs,jpb h1,f0,hb,hq,hst,⟨by have:0<=t1:=h2.1;show _<=t1;omega,by have:t1<=70368744177664:=h2.2;show t1<=_;omega⟩,⟨by have:0<=t2:=h3.1;show _<=t2;omega,by have:t2<=70368744177664:=h3.2;show t2<=_;omega⟩,⟨by have:0<=wn:=h4.1;show _<=wn;omega,by have:wn<=4294967295:=h4.2;show wn<=_;omega⟩,g0,g0,fi0,fi0,fi0⟩
 .obtain⟨h1,_,rfl,rfl,rfl,rfl,rfl,_⟩:=h;have h1:El.may ⟨x,y,a,c,d⟩:=h1;obtain⟨e1,e2,e3,e4,e5⟩:=q6c h1;exact⟨hk256,hs,f0,f0,hb,hq,hst,fi0,fi0,fi0,e1,e2,e3,e4,e5⟩
 .obtain⟨⟨h1,_,h2,h3⟩,_,rfl,rfl,rfl,_⟩:=h;have h3:El.may ⟨x,y,a,c,d⟩:=h3;obtain⟨e1,e2,e3,e4,e5⟩:=q6c h3;have hw:0<=wh/\wh<64:=h1;have hn:0<=wn/\wn<=st:=h2;have h0:=hst.2;exact⟨hk256,hs,f0,⟨hw.1,by show wh<256;omega⟩,hb,hq,hst,fi0,fi0,⟨by show _<=wn;omega,by show wn<=_;omega⟩,e1,e2,e3,e4,e5⟩
 .exact Q3X
theorem qsz{H:Type}{enc:TypeId×Value->H}{fuel:Nat}{v:Value}{x:DataW H×List MemPlace}(hf:DataW.trod enc prog W 0 (λ_=>true) true fuel 37 [v]=some x):∃u bs,v=uR u/\Src W [] u bs:=by
 rcases Deep.open_slice underlying37 hf with ⟨hcs,hx⟩|⟨a,len,cap,m,n,D,Pl,hcs,hb,hl,hm,hmm,hx,hi⟩
 .obtain rfl:v=.slice none 0 0:=by simpa using hcs
  exact⟨none,[],rfl,.nil⟩
 .obtain rfl:v=.slice (some a) len cap:=by simpa using hcs
  have hmc:m=cap:=by simpa using hmm
  subst hmc;have hC:prog.cellsOf 5=1:=by kernel_rfl
  rw[hC] at hi;have key:∀i,i<len->∃z,W.cell? (a.add i)=some (.int .u8 z):=λi hil=>by
   obtain⟨cs',hc,ht'⟩:=hi i Q8E;obtain⟨_,hcl,hat⟩:=World.cells?_some hc;obtain⟨z,hz,_,_⟩:=DataW.trod_int underlying5 ht';have:=hat 0 Q8E;rw[hz,x6] at this;have e:(a.add i).add 0=a.add i:=by simp[Addr.add]
   rw[e] at this;exact⟨z,by simpa using this⟩
  obtain⟨b,o,sp⟩:=a;have hsp:sp=none\/len=0:=by
   cases sp with
   | none=>exact .inl rfl
   | some t=>
    rcases xS len with h0|h0
    .exact .inr h0
    .obtain⟨z,hz⟩:=key 0 h0;simp[Addr.add,World.cell?] at hz;split at hz<;>simp at hz
  refine⟨some ⟨b,o,len,m,sp⟩,(List.range len).map (λj=>intOf ((W.cell? ⟨b,o+j,none⟩).getD undef)),rfl,.old Q8P hsp λj hj=>?_⟩;have hj:j<len:=by simpa using hj
  rcases hsp with rfl|h0
  .obtain⟨z,hz⟩:=key j hj;rw[qdn] at hz;have hz:W.cell? ⟨b,o+j,none⟩=some (.int .u8 z):=hz;show W.cell? ⟨b,o+j,none⟩=_;rw[hz];simp[xT,hj,hz,intOf]
  .omega
section
variable{o:Oper}{st:St}
end
open Go Go.RowKit Sx
structure Cl where
 kd:Int
 now:Int
 fine:Int
 at_:Int
 ux:Int
 uy:Int
 k:Int
 s:Int
 b:Int
 q:Int
 st:Int
 ds:Int
 t1:Int
 t2:Int
 wh:Int
 wn:Int
 x:Int
 y:Int
 a:Int
 c:Int
 d:Int
 u:Option Sl
abbrev Cl.cs(c:Cl):List Value:=[xc c.kd,xc c.now,xc c.fine,xc c.at_,xc c.ux,xc c.uy,xc c.k,xc c.s,xc c.b,xc c.q,xc c.st,xc c.ds,xc c.t1,xc c.t2,xc c.wh,xc c.wn,xc c.x,xc c.y,xc c.a,xc c.c,xc c.d,uV c.u]
abbrev Cl.rs(c:Cl):List Value:=[xc c.kd,xc c.now,xc c.fine,xc c.at_,xc c.ux,xc c.uy,xc c.k,xc c.s,xc c.b,xc c.q,xc c.st,xc c.ds,xc c.t1,xc c.t2,xc c.wh,xc c.wn,xc c.x,xc c.y,xc c.a,xc c.c,xc c.d,uR c.u]
def Cl.f(c:Cl):Frm:=⟨c.k,c.s,c.b,c.q,c.st,c.ds,c.t1,c.t2,c.wh,c.wn,c.x,c.y,c.a,c.c,c.d⟩
def jpc(W:World)(b0 o0 n:Nat)(C:Nat->Cl)(Bs:Nat->List Int):Prop:=∀i,i<n->Src W [] (C i).u (Bs i)/\∀j v,(C i).rs[j]?=some v->W.cell? ⟨b0,o0+i*22+j,none⟩=some v
abbrev Cl.v(c:Cl):Value:=.agg ⟨c.cs⟩
theorem Cl.den(c:Cl)(ρ:Rz):den ρ (.agg ⟨c.cs⟩)=.agg ⟨c.rs⟩:=by
 show Value.agg ((⟨c.cs⟩:Array Value).map (den1 ρ))=_;have e:=q84 c.u ρ;simp only[yv,xq,yg];rw[e];rfl
theorem Cl.re(c:Cl):Re2 ix c.v c.v:=.agg ⟨.plain rfl,.plain rfl,.plain rfl,.plain rfl,.plain rfl,.plain rfl,.plain rfl,.plain rfl,.plain rfl,.plain rfl,.plain rfl,.plain rfl,.plain rfl,.plain rfl,.plain rfl,.plain rfl,.plain rfl,.plain rfl,.plain rfl,.plain rfl,.plain rfl,jdc c.u,xb⟩
theorem qrl{o:Oper}{x:Operand}{b f sz:Nat}{F:List By}{cs ds:List Value}(ho:o.op=.load t x)(hx:EvTo x st (.pointer (some ⟨b,f,none⟩)))(hi:st.h[i]?=some (some (jew W F)))
  (ht:jeq tys t λti d=>qd2 d=true/\ti.size=sz) (hd:∀ρ,den ρ (.agg ⟨cs⟩)=.agg ⟨ds⟩) (hl:ds.length=sz) (hk:∀j v,ds[j]?=some v->W.cell? ⟨b,f+j,none⟩=some v):OKs prog o st (.agg ⟨cs⟩) [] [i]:=λst₂ hs hh _=>
 qay λX ρ a w R=>by
  have hi2:st₂.h[i]?=some (some (jew W F)):=(hh i Q8P).trans hi;have hx':=qot (hs x Q8L _ hx) rfl R;obtain⟨ti,d,h1,h2,hd',rfl⟩:=qao tysOK ht;obtain⟨S,E⟩:=R.heap.ext;have hcells:∀j v,ds[j]?=some v->w.cell? ((⟨b,f,none⟩:Addr).add j)=some v:=λj v hv=>by
   rw[qdn];exact q0g (hk j v hv) _ _ _ (E.inv i _ hi2)
  refine⟨.agg ⟨ds⟩,?_,λr _=>hd r⟩;simp only[execOp,ho,hx',Instr.loadAt,Instr.sureAddr,loadVar,Sem.run_bind,Sem.run_pure,Result.andThen_ok,qdm h2,hd',if_true,Sx.run_sizeOf h1];rw[<-hl,run_loadCells_list _ _ _ hcells];rfl
theorem q1a{H:Type}{enc:TypeId×Value->H}{r:Reach}{base:Nat}{v:Value}{d:DataW H}{p:List MemPlace}(hv:Value.okWide prog W r base 28 v)(h:DataW.Trod enc prog W 0 (λ_=>true) true 28 v d p):
  v=.slice none 0 0\/∃(b o n cap:Nat)(C:Nat->Cl)(B:Nat->List Int),v=.slice (some ⟨b,o,none⟩) n cap/\n<=9223372036854775807/\b<W.heap.size/\∀i,i<n->Src W [] (C i).u (B i)/\∀j v,(C i).rs[j]?=some v->W.cell? ⟨b,o+i*22+j,none⟩=some v:=by
 have hsh:=qk7 underlying28 hv
 obtain⟨A,n,cap,f,rfl,hl,hm,hd,hseg,hrow⟩:=qyg (C:=22) underlying28 Q8J h hsh
 cases A with
 | none=>
  obtain⟨rfl,rfl⟩:=qmt underlying28 hv;exact .inl rfl
 | some a=>
  obtain⟨h1,h2,_⟩:=qhz underlying28 hv;obtain⟨b,o,sp⟩:=a;have h1:sp=none:=h1;subst h1;have key:∀i,i<n->∃c:Cl,∃bs,Src W [] c.u bs/\∀j v,c.rs[j]?=some v->f (i*22+j)=v:=λi hi=>by
   obtain⟨x,fuel,cs,ht,hcl,hc⟩:=hrow i hi;have k0:=(qbp (d:=6) (t:=39) (l:=3) (j:=0) Q8J (@underlying3) (hc 0 Q8E) ht).1;have k1:=(qbp (d:=6) (t:=39) (l:=2) (j:=1) Q8J (@underlying2) (hc 1 Q8E) ht).1;have k2:=(qbp (d:=6) (t:=39) (l:=2) (j:=2) Q8J (@underlying2) (hc 2 Q8E) ht).1;have k3:=(qbp (d:=6) (t:=39) (l:=2) (j:=3) Q8J (@underlying2) (hc 3 Q8E) ht).1;have k4:=(qbp (d:=6) (t:=39) (l:=2) (j:=4) Q8J (@underlying2) (hc 4 Q8E) ht).1;have k5:=(qbp (d:=6) (t:=39) (l:=2) (j:=5) Q8J (@underlying2) (hc 5 Q8E) ht).1;have k6:=(qbp (d:=6) (t:=39) (l:=3) (j:=6) Q8J (@underlying3) (hc 6 Q8E) ht).1;have k7:=(qbp (d:=6) (t:=39) (l:=3) (j:=7) Q8J (@underlying3) (hc 7 Q8E) ht).1;have k8:=(qbp (d:=6) (t:=39) (l:=3) (j:=8) Q8J (@underlying3) (hc 8 Q8E) ht).1;have k9:=(qbp (d:=6) (t:=39) (l:=3) (j:=9) Q8J (@underlying3) (hc 9 Q8E) ht).1
   have k10:=(qbp (d:=6) (t:=39) (l:=2) (j:=10) Q8J (@underlying2) (hc 10 Q8E) ht).1;have k11:=(qbp (d:=6) (t:=39) (l:=3) (j:=11) Q8J (@underlying3) (hc 11 Q8E) ht).1;have k12:=(qbp (d:=6) (t:=39) (l:=2) (j:=12) Q8J (@underlying2) (hc 12 Q8E) ht).1;have k13:=(qbp (d:=6) (t:=39) (l:=2) (j:=13) Q8J (@underlying2) (hc 13 Q8E) ht).1;have k14:=(qbp (d:=6) (t:=39) (l:=3) (j:=14) Q8J (@underlying3) (hc 14 Q8E) ht).1;have k15:=(qbp (d:=6) (t:=39) (l:=2) (j:=15) Q8J (@underlying2) (hc 15 Q8E) ht).1;have k16:=(qbp (d:=6) (t:=39) (l:=2) (j:=16) Q8J (@underlying2) (hc 16 Q8E) ht).1;have k17:=(qbp (d:=6) (t:=39) (l:=2) (j:=17) Q8J (@underlying2) (hc 17 Q8E) ht).1;have k18:=(qbp (d:=6) (t:=39) (l:=2) (j:=18) Q8J (@underlying2) (hc 18 Q8E) ht).1;have k19:=(qbp (d:=6) (t:=39) (l:=2) (j:=19) Q8J (@underlying2) (hc 19 Q8E) ht).1
   have k20:=(qbp (d:=6) (t:=39) (l:=2) (j:=20) Q8J (@underlying2) (hc 20 Q8E) ht).1;obtain⟨v21,y21,n21,hv21,hy21⟩:=qiq 6 39 21 37 fuel cs x Q8J Q8E ht;obtain⟨u,bs,hu,hs⟩:=qsz hy21;have k21:f (i*22+21)=uR u:=by
    have:=hc 21 Q8E;rw[hv21] at this;rw[<-hu];simpa using this.symm
   refine⟨⟨intOf (f (i*22+0)),intOf (f (i*22+1)),intOf (f (i*22+2)),intOf (f (i*22+3)),intOf (f (i*22+4)),intOf (f (i*22+5)),intOf (f (i*22+6)),intOf (f (i*22+7)),intOf (f (i*22+8)),intOf (f (i*22+9)),intOf (f (i*22+10)),intOf (f (i*22+11)),intOf (f (i*22+12)),intOf (f (i*22+13)),intOf (f (i*22+14)),intOf (f (i*22+15)),intOf (f (i*22+16)),intOf (f (i*22+17)),intOf (f (i*22+18)),intOf (f (i*22+19)),intOf (f (i*22+20)),u⟩,bs,hs,λj v hj=>?_⟩;have hj9:j<22:=by have:=(xg.1 hj).1;simpa using this
   match j,hj9 with
   | 0,_=>exact k0.trans Q8V
   | 1,_=>exact k1.trans Q8V
   | 2,_=>exact k2.trans Q8V
   | 3,_=>exact k3.trans Q8V
   | 4,_=>exact k4.trans Q8V
   | 5,_=>exact k5.trans Q8V
   | 6,_=>exact k6.trans Q8V
   | 7,_=>exact k7.trans Q8V
   | 8,_=>exact k8.trans Q8V
   | 9,_=>exact k9.trans Q8V
   | 10,_=>exact k10.trans Q8V
   | 11,_=>exact k11.trans Q8V
   | 12,_=>exact k12.trans Q8V
   | 13,_=>exact k13.trans Q8V
   | 14,_=>exact k14.trans Q8V
   | 15,_=>exact k15.trans Q8V
   | 16,_=>exact k16.trans Q8V
   | 17,_=>exact k17.trans Q8V
   | 18,_=>exact k18.trans Q8V
   | 19,_=>exact k19.trans Q8V
   | 20,_=>exact k20.trans Q8V
   | 21,_=>exact k21.trans Q8V
  refine .inr ⟨b,o,n,cap,λi=>if h:i<n then (key i h).choose else ⟨0,0,0,0,0,0,0,0,0,0,0,0,0,0,0,0,0,0,0,0,0,none⟩,λi=>if h:i<n then (key i h).choose_spec.choose else [],rfl,by simp only[maxLen] at hm;omega,h2,λi hi=>?_⟩;simp only[dif_pos hi];obtain⟨e1,e2⟩:=(key i hi).choose_spec.choose_spec;refine⟨e1,λj v hj=>?_⟩;have hj9:j<22:=by have:=(xg.1 hj).1;simpa using this
  obtain⟨x,hx,_,hc⟩:=hseg Q8E;obtain rfl:(⟨b,o,none⟩:Addr)=x:=by simpa using hx
  have:=hc (i*22+j) Q8E;rw[qdn,<-yi] at this;rw[this,e2 j v hj]
def bw(i:Nat):Nat:=4294967296^i
theorem qdr(i:Nat):bw (i+1)=bw i*4294967296:=yn ..
theorem qdk(i:Nat):0<bw i:=yd Q8I
theorem qc8:bw 0=1:=rfl
theorem qka(i j:Nat):bw (i+j)=bw i*bw j:=x8 ..
theorem qjv{j:Nat}(h:i<=j):bw i<=bw j:=xW Q8I h
def lm(v j:Nat):Nat:=v / bw j%4294967296
theorem jfg(v j:Nat):lm v j<4294967296:=xo _ Q8I
theorem qm7{v j:Nat}(h:v<bw j):lm v j=0:=by unfold lm;rw[xK h]
theorem qoy(v j:Nat):v / bw j=v / bw (j+1)*4294967296+lm v j:=by
 unfold lm;rw[qdr,<-xU];have:=xu (v / bw j) 4294967296;omega
theorem qhl(v j:Nat):v%bw (j+1)=v%bw j+lm v j*bw j:=by
 unfold lm;rw[qdr,Nat.mod_mul,xm (bw j)]
theorem qkb{v j:Nat}(h:j<i):lm (v%bw i) j=lm v j:=by
 unfold lm;obtain⟨d,rfl⟩:∃d,i=j+1+d:=⟨i-(j+1),by omega⟩;rw[qka,qdr,x5,Nat.mod_mul_right_div_self,Nat.mod_mul_right_mod]
theorem jd3{v j:Nat}(u:Nat)(h:j<i):lm (v+u*bw i) j=lm v j:=by
 rw[<-qkb h (v:=v+u*bw i),zq,qkb h]
def nl:Nat->Nat
 | 0=>0
 | v+1=>nl ((v+1) / 4294967296)+1
decreasing_by exact Nat.div_lt_self Q8E Q8I
theorem qea:nl 0=0:=by unfold nl;rfl
theorem q6d{v:Nat}(h:0<v):nl v=nl (v / 4294967296)+1:=by
 obtain⟨u,rfl⟩:∃u,v=u+1:=⟨v-1,by omega⟩;rw[nl]
theorem nl_le:∀{n v:Nat},nl v<=n↔v<bw n
 | 0,v=>by
  rw[qc8];rcases xS v with rfl|h
  .rw[qea];simp
  .rw[q6d h];omega
 | n+1,v=>by
  rcases xS v with rfl|h
  .rw[qea];exact⟨λ_=>qdk _,λ_=>xn _⟩
  .rw[q6d h,qdr];have ih:=nl_le (n:=n) (v:=v / 4294967296);rw[xQ Q8I] at ih;rw[<-ih];omega
theorem qb1(v:Nat):v<bw (nl v):=nl_le.1 (nlr _)
theorem jpd{v n:Nat}(h1:v<bw (n+1))(h2:bw n<=v):nl v=n+1:=by
 have:=nl_le.2 h1;have h3:¬ nl v<=n:=λh=>by have:=nl_le.1 h;omega
 omega
theorem nl_zero_iff{v:Nat}:nl v=0↔v=0:=by
 constructor
 .intro h;have:=nl_le.1 (yx h);rw[qc8] at this;omega
 .rintro rfl;exact qea
theorem q1b{v l:Nat}(h:v<bw (l+1)):lm v l=0↔v<bw l:=by
 constructor
 .intro h1;have:=qoy v l;rw[xK h,h1] at this;rcases xP v (bw l) with h2|h2
  .exact h2
  .have:=(yT (qdk l)).2 (by rw[Nat.one_mul];exact h2);omega
 .exact qm7
theorem qve(a b i:Nat):
  let c:=(a%bw i+b%bw i) / bw i;let t:=c+lm a i+lm b i
  lm (a+b) i=t%4294967296/\(a%bw (i+1)+b%bw (i+1)) / bw (i+1)=t / 4294967296/\c<=1:=by
 intro c t
 have hp:=qdk i
 have hc:c<=1:=by
  have h1:=xo a hp;have h2:=xo b hp;have:c<2:=(xQ hp).2 Q8E;omega
 have he:(a+b) / bw i=c+a / bw i+b / bw i:=by
  have h1:=xu a (bw i);have h2:=xu b (bw i);have h3:a+b=(a%bw i+b%bw i)+(a / bw i+b / bw i)*bw i:=by
   rw[xO,xm (a / bw i),xm (b / bw i)];omega
  rw[h3,zm _ _ hp];omega
 refine⟨?_,?_,hc⟩
 .show(a+b) / bw i%4294967296=(c+a / bw i%4294967296+b / bw i%4294967296)%4294967296;rw[he];omega
 .have h1:(a%bw (i+1)+b%bw (i+1))=(a%bw i+b%bw i)+(lm a i+lm b i)*bw i:=by
   rw[qhl,qhl,xO];omega
  rw[h1,qdr,<-xU,zm _ _ hp];congr 1;show c+_=_;omega
theorem jfv(n:Int)(h0 : -9223372036854775808<=n)(h1:n<9223372036854775808):IntKind.i64.wrap n=n:=by rw[xw];omega
theorem ql5{v u:Value}(h:v=u)(hp:qan v=true):Re ix v u:=by subst h;exact .plain hp
theorem jfi{k:IntKind}{a:Int}(h:a=b):Value.int k a=.int k b:=by rw[h]
theorem jin{k l l' c:Nat}(h:ixK ix k=some i)(e:l=l'):Re ix (.slice (some ⟨i,0,some 0⟩) l c) (.slice (some ⟨k,0,some 0⟩) l' c):=by subst e;exact .one (.slice h)
theorem MakeN.mk1{a:Int}{bytes size:Nat}{K:Nat->Nat->Prop}{K0:Prop}(n m:Nat)(ha:a=(n:Nat))(hb:b=(n:Nat))(h1:bytes*n<=281474976710656)(h2:n<=9223372036854775807)(hm:m=n*size)(k:K n m):N (MakeN a b bytes size K K0):=N.mk (.inl ⟨n,m,ha,hb,h1,h2,hm,k⟩)
abbrev je2(o:Bool)(m v:Nat):Chunk:=⟨o,m,[(0,m,.agg ⟨segL m λj=>.int .u32 ((lm v j:Nat):Int)⟩)]⟩
def je4(c:Chunk)(m v:Nat):Prop:=c.n=m/\∀j,j<m->c.f j=.int .u32 ((lm v j:Nat):Int)
theorem je7(o:Bool)(m v:Nat):je4 (je2 o m v) m v:=⟨rfl,λj hj=>qbk hj⟩
theorem qdv{o:Bool}{v:Nat}(hc:je4 c m v):qbh ix c (je2 o m v):=λj hj=>by
 have hj:j<m:=hj;rw[qbk hj,hc.2 j hj];exact .plain rfl
theorem qb4{o:Bool}{v p q:Nat}(h:p<m)(e:q=p):Reads (je2 o m v) q false 1 (.int .u32 ((lm v p:Nat):Int)):=by
 subst e;exact qvu h rfl rfl
theorem N.bnd{lo hi:Option Value}{len cap:Nat}{K:Nat->Nat->Nat->Prop}(p q s:Nat)(h1:Bnd hi len cap q)(h2:Bnd lo 0 q p)(k:K p q s):N (jk3 lo hi len cap K):=N.mk ⟨p,q,s,h1,h2,k⟩
theorem jd4{x y:Nat}(h:y=x):Value.slice (some ⟨i,0+(if m=0 then 0 else 0*1),some 0⟩) (y-0) (m-0)=.slice (some ⟨i,0,some 0⟩) x m:=by
 subst h;simp
theorem jh1(v m l i:Nat)(o:Chunk)(h:Hp)(hi:h[i]?=some (some o))(hin:je4 o m v)(hl:l<=m)(hm:m<=1000000)(hv:v<bw l):
  qae prog 136 [.slice (some ⟨i,0,some 0⟩) l m] h (.slice (some ⟨i,0,some 0⟩) (nl v) m) [] [i]:=by
 refine qak (G:=tys) [⟨i,_,je2 false m v,⟨false,0,[]⟩⟩] [] [.slice (some ⟨0,0,some 0⟩) l m] tysOK mixed func136 Q8F (call136) ⟨hi,xb⟩ Q7O Q8K xb ⟨.slice rfl,xb⟩ ?_
 repeat' (refine Ba ?_;first|refine Q55 ?_|refine Q51 ?_|fail)
 refine Ba ?_
 refine Bo (α:=Nat) (λx=>x<=l/\v<bw x) (λx=>x) (λx=>[(0,.slice (some ⟨0,0,some 0⟩) x m)]) (λ_=>[]) l ⟨nlr _,hv⟩ ?_ ?_
 .repeat (refine Ba ?_;first|exact Be|refine Q57 ?_|refine Q5j ?_|fail_if_success skip)
 .intro x hx;obtain⟨x1,x2⟩:=hx;rcases xS x with rfl|hp
  .have hv0:v=0:=by rw[qc8] at x2;omega
   subst hv0;repeat' (refine Ba ?_;first|refine Q55 ?_|refine Q51 ?_|refine Q5d ?_|refine Bc (jin Q8F qea) ?_|refine Bc xb ?_|exact Be|fail)
  .obtain⟨y,rfl⟩:∃y,x=y+1:=⟨x-1,by omega⟩;have e1:IntKind.i64.wrap (((y+1:Nat):Int)-1)=(y:Int):=by rw[jfv _ Q8E Q8E];omega
   by_cases h0:lm v y=0
   .have x3:=(q1b x2).1 h0;repeat' (refine Ba ?_;first|refine Q55 ?_|refine Q51 ?_|refine Q64 ?_|refine Bg (by rw[h0];rfl) ?_|refine Q5i ?_|refine N.bnd 0 y 0 ⟨e1,by omega⟩ rfl ?_|fail)
    refine Ba ?_;refine N.next y ⟨⟨by omega,x3⟩,by omega⟩ ?_;repeat (refine Ba ?_;first|exact Be|refine Q57 ?_|refine Q5j ?_|refine Bc (jd4 rfl) ?_|fail_if_success skip)
   .have x3:nl v=y+1:=jpd x2 (by rcases xP v (bw y) with h|h;exact absurd (qm7 h) h0;exact h);repeat' (refine Ba ?_;first|refine Q55 ?_|refine Q51 ?_|refine Q64 ?_|refine Bf (by rw[beq_eq_false_iff_ne];omega) ?_|refine Q5i ?_|refine Bc (jin Q8F x3) ?_|refine Bc xb ?_|exact Be|fail)
def bn:Nat->Nat
 | 0=>0
 | v+1=>bn ((v+1) / 2)+1
decreasing_by exact Nat.div_lt_self Q8E Q8I
theorem qs0:bn 0=0:=by unfold bn;rfl
theorem q6e{v:Nat}(h:0<v):bn v=bn (v / 2)+1:=by
 obtain⟨u,rfl⟩:∃u,v=u+1:=⟨v-1,by omega⟩;rw[bn]
theorem jkp:∀(n v:Nat),v<2^n->bn v<=n
 | 0,v,h=>by
  obtain rfl:v=0:=by simpa using h
  rw[qs0];exact nlr _
 | n+1,v,h=>by
  rcases xS v with rfl|hv
  .rw[qs0];exact xn _
  .rw[q6e hv];have:=jkp n (v / 2) (by rw[yn] at h;omega);omega
theorem fd1(n:Nat):((n:Nat):Int).fdiv (2^sh 1 IntKind.u32)=((n / 2:Nat):Int):=by
 rw[show sh 1 IntKind.u32=1 by decide,zk _ Q8I];omega
theorem jkq(n:Nat):((n:Nat):Int).fdiv (2^sh 32 IntKind.u64)=((n / 4294967296:Nat):Int):=by
 rw[show sh 32 IntKind.u64=32 by decide,zk _ Q8I];omega
def bitn(v:Nat):Nat:=if v=0 then 0 else 32*(nl v-1)+bn (lm v (nl v-1))
theorem q96(v:Nat):bitn v<=32*nl v:=by
 unfold bitn;split
 .exact xn _
 .rename_i h;have h0:nl v≠0:=λe=>h (nl_zero_iff.1 e)
  have:=jkp 32 (lm v (nl v-1)) (jfg v _);omega
theorem qs1(v m i:Nat)(o:Chunk)(h:Hp)(hi:h[i]?=some (some o))(hin:je4 o m v)(hl:nl v<=m)(hm:m<=1000000):
  qae prog 137 [.slice (some ⟨i,0,some 0⟩) (nl v) m] h (xc (bitn v:Nat)) [] [i]:=by
 refine qak (G:=tys) [⟨i,_,je2 false m v,⟨false,0,[]⟩⟩] [] [.slice (some ⟨0,0,some 0⟩) (nl v) m] tysOK mixed func137 Q8F (call137) ⟨hi,xb⟩ Q7O Q8K xb ⟨.slice rfl,xb⟩ ?_
 rcases xS v with rfl|hp
 .rw[qea];repeat' (refine Ba ?_;first|refine Q55 ?_|refine Q51 ?_|refine Q5m ?_|refine Bc (ql5 (jfi Q8I) rfl) ?_|refine Bc xb ?_|exact Be|fail)
 .have h0:nl v≠0:=λe=>by have:=nl_zero_iff.1 e;omega
  have hbv:bitn v=32*(nl v-1)+bn (lm v (nl v-1)):=by unfold bitn;rw[if_neg Q8E]
  have htop:=jfg v (nl v-1);obtain⟨y,hy⟩:∃y,nl v=y+1:=⟨nl v-1,by omega⟩;rw[hy] at hbv htop;rw[show y+1-1=y by omega] at hbv htop;rw[hbv,hy];rw[hy] at hl;generalize hT:lm v y=T at *;have hbT:=jkp 32 T htop;have e1:IntKind.i64.wrap (((y+1:Nat):Int)-1)=(y:Int):=by rw[jfv _ Q8E Q8E];omega
  repeat' (refine Ba ?_;first|refine Q55 ?_|refine Q51 ?_|refine Bf (by rw[beq_eq_false_iff_ne];omega) ?_|refine Q64 ?_|fail)
  refine Ba ?_;refine Bo (α:=Nat) (λx=>x<4294967296/\bn x<=bn T) (λx=>x) (λx=>[(3,xc ((32*y+(bn T-bn x):Nat):Int)),(4,.int .u32 (x:Int))]) (λ_=>[]) T ⟨htop,nlr _⟩ ?_ ?_
  .repeat (refine Ba ?_;first|exact Be|refine Q57 ?_|refine Q5j ?_|refine Bc (jfi (by rw[e1,jfv _ Q8E Q8E];omega)) ?_|refine Bc (jfi (by rw[hT])) ?_|fail_if_success skip)
  .intro x hx;obtain⟨x1,x2⟩:=hx;rcases xS x with rfl|hp
   .repeat' (refine Ba ?_;first|refine Q55 ?_|refine Q51 ?_|refine Q5d ?_|refine Bc (ql5 (jfi (by rw[qs0];omega)) rfl) ?_|refine Bc xb ?_|exact Be|fail)
   .have e2:=q6e hp;repeat' (refine Ba ?_;first|refine Q55 ?_|refine Q51 ?_|refine Bg Q9h ?_|fail)
    refine Ba ?_;refine N.next (x / 2) ⟨⟨by omega,by omega⟩,by omega⟩ ?_;repeat (refine Ba ?_;first|exact Be|refine Q57 ?_|refine Q5j ?_|refine Bc (jfi (fd1 x)) ?_|refine Q6z ?_|fail_if_success skip)
theorem qvf{a b y:Nat}(h:a / bw (y+1)=b / bw (y+1)):(lm a y<lm b y->a<b)/\(lm a y=lm b y->a / bw y=b / bw y):=by
 have h1:=qoy a y;have h2:=qoy b y;refine⟨λh3=>?_,λh3=>by omega⟩;have h4:a / bw y<b / bw y:=by omega
 rcases xP a b with h5|h5
 .exact h5
 .have:=Nat.div_le_div_right (c:=bw y) h5;omega
theorem jl7{a b:Nat}(h:nl a<nl b):a<b:=by
 have h1:=qb1 a;rcases xP b (bw (nl a)) with h2|h2
 .have:=nl_le.2 h2;omega
 .omega
def jhf(a b:Nat):Int:=if a<b then -1 else if a=b then 0 else 1
theorem jre(a b m q i j:Nat)(o o2:Chunk)(h:Hp)(hi:h[i]?=some (some o))(hin:je4 o m a)(hj:h[j]?=some (some o2))(hjn:je4 o2 q b)(hl:nl a<=m)(hm:m<=1000000)(hl2:nl b<=q)(hq:q<=1000000):
  qae prog 161 [.slice (some ⟨i,0,some 0⟩) (nl a) m,.slice (some ⟨j,0,some 0⟩) (nl b) q] h (xc (jhf a b)) [] [i,j]:=by
 refine qak (G:=tys) [⟨i,_,je2 false m a,⟨false,0,[]⟩⟩,⟨j,_,je2 false q b,⟨false,0,[]⟩⟩] [] [.slice (some ⟨0,0,some 0⟩) (nl a) m,.slice (some ⟨1,0,some 0⟩) (nl b) q] tysOK mixed func161 Q8F (call161) ⟨hi,hj,xb⟩ Q7b Q8K xb Q7L ?_
 by_cases hne:nl a=nl b
 .repeat' (refine Ba ?_;first|refine Q55 ?_|refine Q51 ?_|refine Bf (by rw[hne];simp) ?_|fail)
  refine Ba ?_;refine Bo (α:=Nat) (λc=>c<=nl a/\a / bw c=b / bw c) (λx=>x) (λx=>[(5,xc ((x:Int)-1))]) (λ_=>[]) (nl a) ⟨nlr _,by rw[xK (qb1 a),hne,xK (qb1 b)]⟩ ?_ ?_
  .repeat (refine Ba ?_;first|exact Be|refine Q57 ?_|refine Q5j ?_|refine Bc (jfi (by rw[jfv _ Q8E Q8E])) ?_|fail_if_success skip)
  .intro c hc;obtain⟨c1,c2⟩:=hc;rcases xS c with rfl|hp
   .have he:a=b:=by rw[qc8,yS,yS] at c2;exact c2
    have hr:jhf a b=0:=by unfold jhf;rw[if_neg Q8E,if_pos he]
    repeat' (refine Ba ?_;first|refine Q55 ?_|refine Q51 ?_|refine Q5d ?_|refine Q70 ?_|exact Be|fail)
   .obtain⟨y,rfl⟩:∃y,c=y+1:=⟨c-1,by omega⟩;have e1:(((y+1:Nat):Int)-1)=(y:Int):=by omega
    have cw:=qvf c2;have cw2:=(qvf c2.symm).1;by_cases h1:lm a y=lm b y
    .repeat' (refine Ba ?_;first|refine Q55 ?_|refine Q51 ?_|refine Q64 ?_|refine Q5i ?_|refine Bf (by rw[h1];simp) ?_|fail)
     refine Ba ?_;refine N.next y ⟨⟨by omega,cw.2 h1⟩,by omega⟩ ?_;repeat (refine Ba ?_;first|exact Be|refine Q57 ?_|refine Q5j ?_|refine Q6z ?_|fail_if_success skip)
    .rcases xP (lm a y) (lm b y) with h2|h2
     .have hr:jhf a b = -1:=by unfold jhf;rw[if_pos (cw.1 h2)]
      exact Q1G
     .have:=cw2 Q8E;have hr:jhf a b=1:=by unfold jhf;rw[if_neg Q8E,if_neg Q8E]
      exact Q1G
 .rcases xP (nl a) (nl b) with h2|h2
  .have:=jl7 h2;have hr:jhf a b = -1:=by unfold jhf;rw[if_pos Q8E]
   exact Q20
  .have:=jl7 (show nl b<nl a by omega);have hr:jhf a b=1:=by unfold jhf;rw[if_neg Q8E,if_neg Q8E]
   exact Q20
open Go Go.RowKit Sx
theorem q6f{k l l' c:Nat}{r b:Bool}(h:ixK ix k=some i)(e:b=r)(e2:l=l'):Re ix (.agg ⟨[.bool r,.bool false,.slice (some ⟨i,0,some 0⟩) l c]⟩) (.agg ⟨[.bool b,.bool false,.slice (some ⟨k,0,some 0⟩) l' c]⟩):=by
 subst e e2;exact .one (.agg ⟨.plain rfl,.plain rfl,.slice h,xb⟩)
theorem qoz(v m l i:Nat)(s r:Bool)(hr:r=(s&&decide (0<v)))(o:Chunk)(h:Hp)(hi:h[i]?=some (some o))(hin:je4 o m v)(hl:l<=m)(hm:m<=31)(hv:v<bw l):
  qae prog 104 [.bool s,.slice (some ⟨i,0,some 0⟩) l m] h (.agg #[.bool r,.bool false,.slice (some ⟨i,0,some 0⟩) (nl v) m]) [] [i]:=by
 have hn:nl v<=l:=nl_le.2 hv
 have hb:=q96 v
 refine qak (G:=tys) [⟨i,_,je2 false m v,⟨false,0,[]⟩⟩] [] [.bool s,.slice (some ⟨0,0,some 0⟩) l m] tysOK mixed func104 Q8F (call104) ⟨hi,xb⟩ Q7O Q8K xb ⟨.plain rfl,.slice rfl,xb⟩ ?_
 cases s with
 | false=>
  rw[Bool.false_and] at hr;subst hr;repeat' (refine Ba ?_;first|refine Q55 ?_|refine Q51 ?_|refine Q68 ?_|refine Q5e ?_|refine Q6m ?_|refine Bc xb ?_|exact Be|fail)
 | true=>
  rw[Bool.true_and] at hr;rcases xS v with hz|hp
  .have hr:r=false:=by rw[hr,hz];rfl
   subst hr;have h0:nl v=0:=nl_zero_iff.2 hz;repeat' (refine Ba ?_;first|refine Q55 ?_|refine Q51 ?_|refine Q68 ?_|refine Q5e ?_|refine Bc (q6f Q8F (by rw[xj];omega) rfl) ?_|refine Bc xb ?_|exact Be|fail)
  .rw[xf hp] at hr;subst hr;have h0:nl v≠0:=λe=>by have:=nl_zero_iff.1 e;omega
   repeat' (refine Ba ?_;first|refine Q55 ?_|refine Q51 ?_|refine Q68 ?_|refine Q5e ?_|refine Bc (q6f Q8F (by rw[xh];omega) rfl) ?_|refine Bc xb ?_|exact Be|fail)
theorem qfs{n:Nat}(h:n<18446744073709551616):n<bw 2/\nl n<=2:=by
 have:bw 2=18446744073709551616:=by decide
 exact⟨by omega,nl_le.2 Q8E⟩
theorem qvg{o:Bool}{n:Nat}{x y:Int}(hx:x=((n%4294967296:Nat):Int))(hy:y=((n / 4294967296%4294967296:Nat):Int)):je4 ⟨o,2,[(0,2,.agg ⟨[.int .u32 x,.int .u32 y]⟩)]⟩ 2 n:=⟨rfl,λj hj=>by
 subst hx hy
 match j,hj with
 | 0,_=>unfold lm;rw[qc8,yS];rfl
 | 1,_=>rfl⟩
theorem qhm{h:Hp}{k v:Nat}(hh:h[k]?=some (some c))(ho:c.own=true)(hc:je4 c m v):PostC ix h k (je2 true m v):=
 ⟨c,hh,λ_=>ho,yx hc.1.symm,λj hj=>by
  have hj:j<m:=hj;rw[qbk hj,hc.2 j hj];exact .plain rfl⟩
theorem w32(n:Nat):IntKind.u32.wrap (n:Int)=((n%4294967296:Nat):Int):=by rw[wrap_u32];omega
theorem w64{n:Nat}(h:n<18446744073709551616):IntKind.u64.wrap (n:Int)=(n:Int):=by rw[xk];omega
theorem jrf(n K:Nat)(h:Hp)(h0:h[K]?=some none)(hn:n<9223372036854775808):
  qae prog 68 [xc (n:Int)] h (.agg #[.bool false,.bool false,.slice (some ⟨K,0,some 0⟩) (nl n) 2]) [(K,je2 true 2 n)] []:=by
 have h2:=qfs (n:=n) Q8E
 refine qak (G:=tys) [] [⟨K,1,je2 true 2 n⟩] [xc (n:Int)] tysOK mixed func68 Q8F (call68) xb xb xb ⟨⟨h0,rfl,by show 0<2;decide,by simp⟩,xb⟩ ⟨.plain rfl,xb⟩ ?_
 repeat' (refine Ba ?_;first|refine Q55 ?_|refine Q51 ?_|refine Bb (qoz n 2 2 _ false false rfl _ _ Q8F (qvg (by rw[w64 Q8E,w32]) (by rw[w64 Q8E,jkq,w32])) Q8E Q8E h2.1) ?_|refine Q5e ?_|refine Q6m ?_|refine Bc ⟨⟨xn _,qhm Q8F rfl (qvg (by rw[w64 Q8E,w32]) (by rw[w64 Q8E,jkq,w32]))⟩,xb⟩ ?_|refine Bc xb ?_|exact Be|fail)
theorem qjd{o:Bool}:ChunkLe (je2 o m 0) ⟨o,m,[(0,m,.agg ⟨segL m (jfj 1 (.int .u32 0))⟩)]⟩:=.mk id (nlr _) λj hj=>by
 have hj:j<m:=hj;rw[qbk hj,qbk hj];unfold jfj lm;rw[yo,Nat.zero_div];rfl
theorem jl8(v i j:Nat)(h:i<=j):lm (v%bw i) j=0:=qm7 (xl (xo _ (qdk i)) (qjv h))
theorem qcl{v q:Nat}{x:Int}(e:q=i)(h:i<m)(hx:x=((lm v i:Nat):Int)):Writes (je2 true m (v%bw i)) q 1 (.int .u32 x) (je2 true m (v%bw (i+1))):=by
 subst e hx;refine⟨rfl,by show q+1<=m;omega,rfl,λj hj=>?_⟩;have hj:j<m:=hj;rw[qbk hj,qbk hj];rcases Nat.lt_trichotomy j q with h1|h1|h1
 .rw[if_neg Q8E,qkb h1,qkb Q8E]
 .subst h1;rw[if_pos Q8E,Nat.sub_self,qkb Q8E];rfl
 .rw[if_neg Q8E,jl8 _ _ _ Q8E,jl8 _ _ _ Q8E]
theorem q97(v i j:Nat):lm (v / bw i*bw i) j=if i<=j then lm v j else 0:=by
 by_cases h:i<=j
 .rw[if_pos h];unfold lm;obtain⟨d,rfl⟩:∃d,j=i+d:=⟨j-i,by omega⟩;rw[qka,<-xU,zv _ (qdk i),xU]
 .rw[if_neg h];unfold lm;obtain⟨d,rfl⟩:∃d,i=j+1+d:=⟨i-(j+1),by omega⟩;rw[qka,qdr];generalize v / (bw j*4294967296*bw d)=q;rw[show q*(bw j*4294967296*bw d)=q*bw d*4294967296*bw j by rw[x5 (bw j),xm (bw j),<-x5,xm 4294967296,<-x5],zv _ (qdk j)];exact Nat.mul_mod_left _ _
end Go.Proofs.YtfkngpmgcimdbaaGreat
