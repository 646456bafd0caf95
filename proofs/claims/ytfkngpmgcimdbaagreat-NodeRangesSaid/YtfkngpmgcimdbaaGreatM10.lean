/-
  A node's rangings.
-/
import Derived.Test.YtfkngpmgcimdbaaGreatM9
set_option linter.unusedVariables false
set_option linter.unusedSimpArgs false
set_option maxRecDepth 100000
set_option maxHeartbeats 20000000
open Go.IntKind
theorem Go.Proofs.yi:type_of% @List.drop_drop:=@List.drop_drop
open Go.Proofs.Tryz
namespace Go.Proofs
section
variable {Z Y:Prop}
theorem Q0e(h:Z:=by
 refine qac (G:=tys) W tysOK mixed func47 Q8I Q8I Q8I ?_;repeat' (refine Bb ?_;first|refine Q55 ?_|refine Bc (qh3 _ _) ?_|refine Be (ynT h1) ?_|refine Bf (nyT h1) ?_|refine Be (ynT h2) ?_|refine Bf (nyT h2) ?_|refine Be (ynT h3) ?_|refine Bf (nyT h3) ?_|refine Be (ynT h4) ?_|refine Bf (nyT h4) ?_|refine Bf (by rw[e1,xh];omega) ?_|refine Be (by rw[e1,xk];omega) ?_|refine Bf (by rw[e3,xh];omega) ?_|refine Be (by rw[e3,xk];omega) ?_|fail)
 all_goals rfl):Z:=h
theorem Q0X(k:Y)(h:Wr Y->Z:=by
 intro kQ;refine Q4t ?_;refine Bn _ (qjq hlt hce rfl Q9b) ?_;exact kQ.o):Z:=h ⟨k⟩
theorem Q10(h:Z:=by
 repeat' (refine Bb ?_;first|refine Q55 ?_|refine Be (bne_eq_false_iff_eq.2 hsum) ?_|refine Bv (qd4 (p:=4) (q:=sn) (so+(if sc=4 then 0 else 4)) rfl rfl ⟨_,_,rfl,⟨rfl,rfl⟩⟩ rfl rfl ⟨rfl,by omega⟩ rfl) ?_|fail)
 refine Bb ?_;refine Bc (je7 W hz R _ (bs.drop 4) O0 1 Q8Q Q8Q 0 _ Q8H _ Q8I Q8I Q8I) ?_;refine Q01 ?_;refine Bc (je7 W hz R _ (bs.drop 5) O1 1 Q8Q Q8Q 0 _ Q8H _ Q8I Q8I Q8I) ?_;refine Q01 ?_;refine Bc (je7 W hz R _ (bs.drop 6) O2 1 Q8Q Q8Q 0 _ Q8H _ Q8I Q8I Q8I) ?_;refine Q01 ?_;refine Bc (je7 W hz R _ (bs.drop 7) O3 1 Q8Q Q8Q 0 _ Q8H _ Q8I Q8I Q8I) ?_;refine Q01 ?_;refine Bc (je7 W hz R _ (bs.drop 8) O4 2 Q8Q Q8Q 0 _ Q8H _ Q8I Q8I Q8I) ?_;refine Q01 ?_;refine Bc (je7 W hz R _ (bs.drop 10) O5 2 Q8Q Q8Q 0 _ Q8H _ Q8I Q8I Q8I) ?_;refine Q01 ?_;refine Bc (je7 W hz R _ (bs.drop 12) O6 8 Q8Q Q8Q 0 _ Q8H _ Q8I Q8I Q8I) ?_;refine Q01 ?_;refine Bc (je7 W hz R _ (bs.drop 20) O7 8 Q8Q Q8Q 0 _ Q8H _ Q8I Q8I Q8I) ?_;refine Q01 ?_;refine Bc (je7 W hz R _ (bs.drop 28) O8 8 Q8Q Q8Q 0 _ Q8H _ Q8I Q8I Q8I) ?_;refine Q01 ?_
 refine Bc (je7 W hz R _ (bs.drop 36) O9 8 Q8Q Q8Q 0 _ Q8H _ Q8I Q8I Q8I) ?_;refine Q01 ?_;refine Bc (qvf W hz R _ (bs.drop 44) O10 Q8Q Q8Q 0 _ Q8H _ Q8I Q8I Q8I) ?_;refine Q01 ?_;refine Bc (qvf W hz R _ (bs.drop 48) O11 Q8Q Q8Q 0 _ Q8H _ Q8I Q8I Q8I) ?_;refine Q01 ?_;refine Bc (je7 W hz R _ (bs.drop 52) O12 8 Q8Q Q8Q 0 _ Q8H _ Q8I Q8I Q8I) ?_;refine Q01 ?_;refine Bc (je7 W hz R _ (bs.drop 60) O13 8 Q8Q Q8Q 0 _ Q8H _ Q8I Q8I Q8I) ?_;refine Q01 ?_;refine Bc (je7 W hz R _ (bs.drop 68) O14 8 Q8Q Q8Q 0 _ Q8H _ Q8I Q8I Q8I) ?_;refine Q01 ?_;refine Bc (qs1 (jkt bs) _) ?_;repeat' (refine Bb ?_;first|refine Q55 ?_|refine Be (dcY hm) ?_|refine Bf (dcN hm) ?_|refine Q6l ?_|refine Q5r ?_|refine Ba Q6Z ?_|refine Q5a ?_|exact Bg|fail)):Z:=h
theorem Q1b(h:Z:=by repeat' (refine Bb ?_;first|refine Q55 ?_|refine Q5P ?_|refine Bf (xi (show((sn:Nat):Int)<80 from by omega)) ?_|refine Be (xf (show ¬ ((sn:Nat):Int)<80 from by omega)) ?_|refine Bf (xi (show(80:Int)<((sn:Nat):Int) from by omega)) ?_|refine Q6l ?_|refine Q5r ?_|refine Ba Q6Z ?_|refine Q5a ?_|exact Bg|fail)):Z:=h
theorem Q1A(h:Z:=by repeat' (refine Bb ?_;first|refine Q55 ?_|refine Ba Q6H ?_|refine Ba (qdo (by show(evL E p (r+1)).length=_;rw[e1]) Q8I) ?_|refine Ba (qm2 e1) ?_|exact Bg|refine Q5q ?_|refine Q68 ?_|refine Ba qdk ?_|fail)):Z:=h
theorem Q1F(h:Z:=by
 obtain rfl:k=1:=by simpa using hk
 exact Q4M):Z:=h
theorem Q1N(h:Z:=by repeat' (refine Bb ?_;first|refine Q55 ?_|exact Bg|refine Q5k ?_|refine Ba (.one .quo) ?_|refine Ba qfj ?_|refine Ba jo1 ?_|refine Ba (qc3 (qcb ek) rfl) ?_|refine Ba (qc3 (qcb eS) rfl) ?_|fail)):Z:=h
theorem Q1T(h:Z:=by repeat' (refine Bb ?_;first|refine Q55 ?_|refine Q5l ?_|refine Bf hb ?_|refine Be hb ?_|refine Q5r ?_|refine Ba xb ?_|exact Bg|fail)):Z:=h
theorem Q2h(h:Z:=by repeat' (refine Bb ?_;first|refine Q55 ?_|refine Q5r ?_|refine Ba xb ?_|exact Bg|fail)):Z:=h
theorem Q2C(k:Y)(h:Wr Y->Z:=by
 intro kQ;repeat' (refine Bb ?_;first|refine Q55 ?_|refine Bf hh ?_|fail)
 refine Bb ?_;exact kQ.o):Z:=h ⟨k⟩
theorem Q2D(k:Y)(h:Wr Y->Z:=by
 intro kQ;repeat' (refine Bb ?_;first|refine Q55 ?_|refine Be hh ?_|fail)
 refine Bb ?_;exact kQ.o):Z:=h ⟨k⟩
theorem Q3c(h:Z:=by
 refine qat key fun v ms hR=>?_
 obtain⟨κ,hκ,rfl,rfl⟩:=hR;exact⟨κ.1,κ.2,hκ,rfl,rfl⟩):Z:=h
theorem Q4i(k:Y)(h:Wr Y->Z:=by
 intro kQ;refine qac (G:=tys) W tysOK mixed func79 Q8I Q8I Q8I ?_;exact kQ.o):Z:=h ⟨k⟩
theorem Q4n(h:Z:=by
 subst e;refine qat (qc0 hc) fun v ms hR=>?_
 obtain⟨rfl,rfl⟩:=hR;exact⟨rfl,by rw[ho]⟩):Z:=h
theorem Q4r(h:Z:=by exact(e1 _ _).trans ((e2 _ _).trans (e1 _ _)).symm):Z:=h
theorem Q4M(h:Z:=by
 obtain rfl:memC W B=d:=by simpa using hd
 exact absurd hl (xZ l)):Z:=h
theorem Q4P(h:Z:=by unfold jet Tbl.leave;rw[if_neg k5,if_neg k6,if_neg Q8G,if_pos k7,hlf]):Z:=h
theorem Q51(h:Z:=by
 obtain rfl:_=dl:=by simpa using hl
 exact⟨_,rfl,rfl,rfl,re2⟩):Z:=h
theorem Q5n(k:Y)(h:Wr Y->Z:=by intro kQ;(first|refine Be Q9i ?_|refine Bf (ei hk) ?_|fail);exact kQ.o):Z:=h ⟨k⟩
theorem Q5s(k:Y)(h:Wr Y->Z:=by intro kQ;(first|refine Bc (qf2 now _) ?_|refine Bc (qhk W B u bs hs hu hc 1 _ Q8I) ?_|refine Be Qa4 ?_|refine Be (ni hd) ?_|refine Be (en ho) ?_|refine Bc (qkk (decF bs).1.st now (s.C 6) (s.C 4) _) ?_|refine Be (ni hf) ?_|refine Bc (jnd s.T ok.T (decF bs).1.s (decF bs).1.b (decF bs).1.q now _ _ rfl 3 _ Q8I) ?_|fail);exact kQ.o):Z:=h ⟨k⟩
theorem Q5w(k:Y)(h:Wr Y->Z:=by intro kQ;(first|refine Bm m 1 hm hm64 ?_|refine Bn _ (qgy _ _ _ _ _ m hm64 rfl) ?_|fail);exact kQ.o):Z:=h ⟨k⟩
theorem Q5z(k:Y)(h:Wr Y->Z:=by intro kQ;(first|refine Bv (qfi rfl rfl ⟨_,rfl,_,underlying37⟩) ?_|refine Be (xf (show ¬ ((sn:Nat):Int)<80 from by omega)) ?_|refine Be (xf (show ¬ (80:Int)<((sn:Nat):Int) from by omega)) ?_|refine Bv (qd4 (p:=0) (q:=4) (so+(if sc=0 then 0 else 0)) rfl rfl rfl ⟨_,_,rfl,⟨rfl,rfl⟩⟩ ⟨rfl,by omega⟩ rfl rfl) ?_|refine Bv (q09 (i:=0) (R:=R) hz rfl rfl Q8I Q9n Q9n (hs.takew 4 Q8G)) ?_|refine B6 _ (q6u _ _ _ _) ?_|fail);exact kQ.o):Z:=h ⟨k⟩
theorem Q5E(k:Y)(h:Wr Y->Z:=by intro kQ;(first|refine Bm 1 1 rfl Q8H ?_|refine Bn _ (qe5 1 x1 rfl rfl Q8G Q8I) ?_|fail);exact kQ.o):Z:=h ⟨k⟩
theorem Q5J(k:Y)(h:Wr Y->Z:=by intro kQ;(first|refine Bc (qer _ _ _ _ _ _ _ _ _ _ _ _ _ _ _ ⟨hfr.1,hfr.2.1⟩ ⟨hfr.2.2.1,hfr.2.2.2⟩ _) ?_|fail);exact kQ.o):Z:=h ⟨k⟩
theorem Q5K(k:Y)(h:Wr Y->Z:=by intro kQ;(first|refine Be (en hd) ?_|refine Bf (ei hd) ?_|fail);exact kQ.o):Z:=h ⟨k⟩
theorem Q62(k:Y)(h:Wr Y->Z:=by intro kQ;(first|refine Bm 2 1 rfl Q8H ?_|refine Bn _ (qe5 2 x2 rfl rfl Q8G Q8I) ?_|fail);exact kQ.o):Z:=h ⟨k⟩
theorem Q63(k:Y)(h:Wr Y->Z:=by intro kQ;(first|refine Bm 0 1 rfl Q8H ?_|refine Bn _ (qe5 0 x0 rfl rfl Q8G Q8I) ?_|fail);exact kQ.o):Z:=h ⟨k⟩
theorem Q65(k:Y)(h:Wr Y->Z:=by intro kQ;(first|refine Bc (qf2 now _) ?_|refine Bc (qhk W B u bs hs hu hc 1 _ Q8I) ?_|refine Be Qa4 ?_|fail);exact kQ.o):Z:=h ⟨k⟩
theorem Q6a(k:Y)(h:Wr Y->Z:=by intro kQ;(first|refine qef rfl Q9n Q9n underlying40 oinfo ?_|fail);exact kQ.o):Z:=h ⟨k⟩
theorem Q6l(k:Y)(h:Wr Y->Z:=by intro kQ;(first|refine Bq ?_|refine Bo () ⟨xb,?_⟩|fail);exact kQ.o):Z:=h ⟨k⟩
theorem Q6t(k:Y)(h:Wr Y->Z:=by intro kQ;(first|refine N.goto tysOK mixed ?_|fail);exact kQ.o):Z:=h ⟨k⟩
theorem Q6z(h:Z:=by first|exact qhj (D:=D) (F:=F) (T:=T) (f:=f) (m:=m) (at_:=at_) (now:=now) (fine:=fine) (n:=n) (l:=l) (i0:=0) (i1:=1) (i2:=2) (i3:=3) (i4:=4) (i5:=5) (K:=7) ⟨hm,hm64,hfr,hl,hs,hb,hF,hC⟩ Q8G ⟨by rfl,by rfl,by rfl,by rfl,by rfl,by rfl,by rfl,by decide⟩|fail):Z:=h
theorem Q6J(h:Z:=by first|exact ⟨⟨_,rfl,id,nlr _,nzj⟩,⟨_,rfl,id,nlr _,nzj⟩,xb⟩|fail):Z:=h
theorem Q6K(h:Z:=by first|exact ⟨⟨xO rfl,qav rfl⟩,xb⟩|fail):Z:=h
theorem Q6P(h:Z:=by first|exact jo0 Q8I Q8I|fail):Z:=h
theorem Q6R(h:Z:=by first|exact ql4 W (e0::B) s0 e0.s (encF x0.f) (qh4 he0) (ql6 x0.f) (By.cap_ok hc0) ok0 (atP x0 far) late fine 0 3 8 Q8H _ Q8I Q8I Q8I|fail):Z:=h
theorem Q6S(h:Z:=by first|exact q08 (D:=s.nd g) (F:=s.fi) (T:=(jd9 s.T (decF bs).1.s (decF bs).1.b (decF bs).1.q now).2) (f:=(decF bs).1) (m:=(decF bs).1.s.toNat) (at_:=at_) (now:=now) (fine:=fine) (n:=s.bn) (l:=s.bl) (i0:=7) (i1:=0) (i2:=2) (i3:=3) (i4:=4) (i5:=5) (K:=12) ⟨by omega,by omega,⟨hhd.2.1.1,hhd.2.1.2,hhd.2.2.1.1,hhd.2.2.1.2⟩,ok.bl,ok.seq,ok.boot,ok.F,ok.C2⟩ hmay.1 ⟨by rfl,by rfl,by rfl,by rfl,by rfl,by rfl,by rfl,by decide⟩|fail):Z:=h
theorem Q71(h:Z:=by first|exact fun h₂ hh=>ql2 (D.se (upd D.S m ((D.S m).gotPoll at_ f.st))) (jja f) now fine n l Q8G hs hb 0 1 2 3 4 5 10 h₂ _ _ _ ((hh 0 Q8R).trans rfl) ((hh 1 Q8R).trans rfl) ((hh 2 Q8R).trans rfl) ((hh 3 Q8R).trans rfl) ((hh 4 Q8R).trans rfl) ((hh 5 Q8R).trans rfl) ((hh 10 Q8R).trans rfl) Q8H|fail):Z:=h
theorem Q72(h:Z:=by first|exact ⟨.ptr rfl,.quo,.plain rfl,.plain rfl,.plain rfl,xb⟩|fail):Z:=h
theorem Q73(h:Z:=by first|exact ⟨⟨.inr ⟨_,rfl,rfl⟩,.inr ⟨_,rfl,rfl⟩,xb⟩,xb⟩|fail):Z:=h
theorem Q7a(h:Z:=by first|exact ⟨Q6w,⟨fun h=>Q95,nlr _,qgz⟩,⟨fun h=>Q95,nlr _,jo5 _ _⟩,Q6w,xb⟩|fail):Z:=h
theorem Q7e(h:Z:=by first|exact ⟨.inr ⟨rfl,rfl⟩,.inr ⟨rfl,rfl⟩,xb⟩|fail):Z:=h
theorem Q7n(h:Z:=by first|exact ⟨.ptr Q8I,.slice Q8I,.plain rfl,.plain rfl,.ptr Q8I,xb⟩|fail):Z:=h
theorem Q7o(h:Z:=by first|exact jgl (D:=(s).nd g) (f:=2) (t:=3) (b:=4) (m:=5) (f':=1) (t':=2) (b':=3) (m':=4) Q8I Q8I Q8I Q8I|fail):Z:=h
theorem Q7q(h:Z:=by first|exact ⟨.inr ⟨_,rfl,rfl⟩,.inl rfl,.inl rfl,.inr ⟨_,rfl,rfl⟩,xb⟩|fail):Z:=h
theorem Q7r(h:Z:=by first|exact jgl (D:=(s.hr (s.tk (jd9 s.T (decF bs).1.s (decF bs).1.b (decF bs).1.q now).2 (decF bs).1 at_ now fine)).nd g) (f:=2) (t:=3) (b:=4) (m:=5) (f':=1) (t':=2) (b':=3) (m':=4) Q8I Q8I Q8I Q8I|fail):Z:=h
theorem Q7s(h:Z:=by first|exact ⟨.inr ⟨rfl,rfl⟩,.inl rfl,.inl rfl,.inr ⟨rfl,rfl⟩,xb⟩|fail):Z:=h
theorem Q7t(h:Z:=by first|exact fun κ hκ=>⟨⟨hK,rfl,.inl (by show 0<κ.1*16;have:1<=κ.1:=hκ;omega),by simp⟩,xb⟩|fail):Z:=h
theorem Q7G(h:Z:=by first|exact ql4 W (e1::e0::B) s1 e1.s (encF x1.f) (qh4 he1) (ql6 x1.f) (By.cap_ok hc1) ok1 (atP x1 far) late fine 0 3 9 Q8H _ Q8I Q8I Q8I|fail):Z:=h
theorem Q7L(h:Z:=by first|exact ⟨_,e1,id,nlr _,jgl (D:=D.to R) (f:=i2) (t:=i3) (b:=i4) (m:=i5) (f':=2) (t':=3) (b':=4) (m':=5) Q8I Q8I Q8I Q8I⟩|fail):Z:=h
theorem Q7Q(h:Z:=by first|exact jl2 (o:=true) (T:=fun i=>[z].getD i Ou.oo) 0 rfl Q8G rfl|fail):Z:=h
theorem Q7T(h:Z:=by first|exact q07 D.g (upd D.S m ⟨⟨2,(D.S m).a.fr,at_,(D.S m).a.mr,(D.S m).a.sp⟩,(D.S m).b⟩) m hm64 fine he 1 9 Q8I Q8I|fail):Z:=h
theorem Q7Z(h:Z:=by first|exact qf4 W (B) x0.f hx0.1 hx0.2 3 _ Q8I|fail):Z:=h
theorem Q87(h:Z:=by first|exact ql3 D.g D.S m hm64 at_ f.t1 hg 1 8 Q8I Q8I|fail):Z:=h
theorem Q8d(h:Z:=by first|exact qox D.g D.S m hm64 at_ f.st 1 8 Q8I Q8I|fail):Z:=h
theorem Q8k(h:Z:=by first|exact ⟨.inl rfl,.inr ⟨_,e1,rfl⟩,.inl rfl,.inr ⟨_,e3,rfl⟩,.inl rfl,.inl rfl,xb⟩|fail):Z:=h
theorem Q8o(h:Z:=by first|exact ⟨.inl rfl,.inr ⟨rfl,rfl⟩,.inl rfl,.inr ⟨rfl,rfl⟩,.inl rfl,.inl rfl,xb⟩|fail):Z:=h
theorem Q8y(h:Z:=by first|exact ⟨Q6w,⟨fun _=>⟨rfl,nlr _⟩,nlr _,g1z (by rw[hf];exact .quo)⟩,xb⟩|fail):Z:=h
theorem Q8B(h:Z:=by first|exact qdo (by show(evL E p (r+1)).length=_;rw[e1,xt];rfl) Q8I|fail):Z:=h
theorem Q8Q(h:Z:=by rw[List.length_drop];omega):Z:=h
theorem Q9g(h:Z:=by show E.length-(r+1)<E.length-r;omega):Z:=h
theorem Q9i(h:Z:=by rw[hk];decide):Z:=h
end
end Go.Proofs

namespace Go.Proofs.YtfkngpmgcimdbaaGreat
open Go Go.RowKit Sx
structure HrS where
 S:Nat->Ses
 seq:Int
 l:Int
 F:Fil
 T:Tbl
 o:Option Ou
def Frm.mk' (f:Frm):Int:=f.b*65536+f.q
def jja (f:Frm):Frm:=⟨3,0,0,0,0,f.s,f.mk',0,0,0,0,0,0,0,0⟩
def joz (f:Frm) (r a:Int):Frm:=⟨4,0,0,0,0,f.s,r,a,0,f.mk',0,0,0,0,0⟩
def NdS.se (D:NdS) (S:Nat->Ses):NdS:=⟨D.C,D.id,D.boot,D.g,S,D.seq,D.told,D.asked,D.bad⟩
def NdS.to (D:NdS) (r:HrS):NdS:=⟨D.C,D.id,D.boot,D.g,r.S,r.seq,D.told,D.asked,D.bad⟩
def jic (D:NdS) (l:Int) (F:Fil) (T:Tbl) (m:Nat) (f:Frm) (at_ now fine:Int):HrS:=
 if l=0 then ⟨upd D.S m ((D.S m).gotPoll at_ f.st),D.seq,l,F,T,none⟩
 else ⟨upd (upd D.S m ((D.S m).gotPoll at_ f.st)) m ((upd D.S m ((D.S m).gotPoll at_ f.st) m).resp fine (D.boot*65536+D.seq)),D.seq+1,l-1,F,T,some ⟨(jja f).by D now,fine⟩⟩
def jhr (D:NdS) (l:Int) (F:Fil) (T:Tbl) (m:Nat) (f:Frm) (at_ now fine:Int):HrS:=
 if (D.S m).gotRespP at_ f.t1 then
  (if (upd D.S m ((D.S m).gotResp at_ f.t1) m).a.endP fine then
   (
    if l=0 then ⟨upd (upd D.S m ((D.S m).gotResp at_ f.t1)) m ((upd D.S m ((D.S m).gotResp at_ f.t1) m).final fine),D.seq,l,F,T,none⟩
    else ⟨upd (upd D.S m ((D.S m).gotResp at_ f.t1)) m ((upd D.S m ((D.S m).gotResp at_ f.t1) m).final fine),D.seq+1,l-1,F,T,
     some ⟨(joz f (IntKind.i64.wrap ((upd D.S m ((D.S m).gotResp at_ f.t1) m).a.to-(upd D.S m ((D.S m).gotResp at_ f.t1) m).a.fr)) (IntKind.i64.wrap (fine-(upd D.S m ((D.S m).gotResp at_ f.t1) m).a.to))).by D now,fine⟩⟩)
   else ⟨upd (upd D.S m ((D.S m).gotResp at_ f.t1)) m (upd D.S m ((D.S m).gotResp at_ f.t1) m),D.seq,l,F,T,none⟩)
 else ⟨upd D.S m (D.S m),D.seq,l,F,T,none⟩
def qvd (D:NdS) (l:Int) (F:Fil) (T:Tbl) (m:Nat) (f:Frm) (at_ now:Int):HrS:=
 if (D.S m).gotFinalP at_ f.wn then ⟨upd D.S m ((D.S m).gotFinal at_ f.wn),D.seq,l,qbj D F T f.s f.t1 (IntKind.i64.wrap ((D.S m).b.to-(D.S m).b.fr)) f.t2 (IntKind.i64.wrap (at_-(D.S m).b.to)) (D.S m).b.sp now,T,none⟩
 else ⟨upd D.S m (D.S m),D.seq,l,F,T,none⟩
theorem qgy (D:NdS) (f t b mm m:Nat) (hm:m<64) {p:Nat} (hp:p=15+m):Reads (ndC D f t b mm) p false 1 (jeb (D.g m)):=by
 subst hp;refine⟨by show 15+m<85;omega,rfl,?_⟩;show qa3 [(79,6,_),(15,64,_),(0,15,_)] _=_;rw[qam,if_neg Q8G,qam,if_pos Q8G,show 15+m-15=m from by omega];simp[cellIn,hm]
def hrR (D:NdS) (now fine n:Int) (r:HrS) (i0 i1 i2 i3 i4 i5 K:Nat) (v:Value) (ms:Mz):Prop:=
 v=.tuple #[]/\match r.o with
 | none=>ms=[(i0,sdC i1 now fine (.slice none 0 0)),(i1,ndC (D.to r) i2 i3 i4 i5),(i2,fiF r.F),(i3,tblC r.T),(i4,twC n r.l)]
 | some x=>∃ κ:Nat,1<=κ/\ms=[(i0,sdC i1 now fine (.slice (some ⟨K,0,some 0⟩) 1 κ)),(i1,ndC (D.to r) i2 i3 i4 i5),(i2,fiF r.F),(i3,tblC r.T),(i4,twC n r.l),(K,ouR [x] κ)]
variable {K:Nat}
theorem q6t {sl:Nat} {l:List (Nat×Nat)} (h:∀ p∈l,p.1≠sl):ixK (l++[(sl,K)]) sl=some K:=by
 induction l with
 | nil=>show(match Nat.beq sl sl with | true=>_ | false=>_)=_;rw[Nat.beq_refl]
 | cons a r ih=>
  have h1:Nat.beq a.1 sl=false:=by
   cases e:Nat.beq a.1 sl with
   | false=>rfl
   | true=>exact absurd (xM e) (h a Q8R)
  show(match Nat.beq a.1 sl with|true=>_|false=>ixK (r++[(sl,K)]) sl)=_;rw[h1];exact ih fun p hp=>h p (by simp[hp])
abbrev m6 (D:NdS) (now fine n:Int) (i0 i1 i2 i3 i4 i5:Nat) (R:HrS):Mz:=[(i0,sdC i1 now fine (.slice none 0 0)),(i1,ndC (D.to R) i2 i3 i4 i5),(i2,fiF R.F),(i3,tblC R.T),(i4,twC n R.l)]
abbrev y6 (D:NdS) (now fine n:Int) (i0 i1 i2 i3 i4 i5 K:Nat) (R:HrS) (x:Ou) (v:Value) (ms:Mz):Prop:=∃ κ:Nat,1<=κ/\v=.tuple #[]/\ms=[(i0,sdC i1 now fine (.slice (some ⟨K,0,some 0⟩) 1 κ)),(i1,ndC (D.to R) i2 i3 i4 i5),(i2,fiF R.F),(i3,tblC R.T),(i4,twC n R.l),(K,ouR [x] κ)]
abbrev hdA (f:Frm) (at_:Int) (i0 i1:Nat):List Value:=[xd i1,hdV f at_ i0]
variable {f:Frm} {i0 i1:Nat}
theorem jo0 {ix:List (Nat×Nat)} {at_:Int} (h0:ixK ix 0=some i0) (h1:ixK ix 1=some i1):All2 (Re2 ix) (hdA f at_ i0 i1) (hdA f at_ 0 1):=⟨.ptr h1,.agg ⟨.plain rfl,.plain rfl,.plain rfl,.plain rfl,.plain rfl,.plain rfl,.plain rfl,.plain rfl,.plain rfl,.plain rfl,.plain rfl,.plain rfl,.plain rfl,.plain rfl,.plain rfl,.plain rfl,.ptr h0,xb⟩,xb⟩
structure On6 (D:NdS) (F:Fil) (T:Tbl) (now fine n l:Int) (i0 i1 i2 i3 i4 i5 K:Nat) (h:Hp) (cm:Chunk):Prop where
 h0:h[i0]?=some (some (sdC i1 now fine (.slice none 0 0)))
 h1:h[i1]?=some (some (ndC D i2 i3 i4 i5))
 h2:h[i2]?=some (some (fiF F))
 h3:h[i3]?=some (some (tblC T))
 h4:h[i4]?=some (some (twC n l))
 h5:h[i5]?=some (some cm)
 hK:h[K]?=some none
 ne:[i0,i1,i2,i3,i4,i5].Nodup
structure Rg (D:NdS) (F:Fil) (f:Frm) (m:Nat) (l:Int):Prop where
 hm:f.s=(m:Int)
 hm64:m<64
 hfr:0<=f.b/\f.b<=65535/\0<=f.q/\f.q<=65535
 hl:0<=l/\l<1000
 hs:0<=D.seq/\D.seq<65535
 hb:0<=D.boot/\D.boot<=65535
 hF:F.valid=true->F.e.may
 hC:0<=D.C 2/\D.C 2<=1000
abbrev ss6 (D:NdS) (F:Fil) (T:Tbl) (now fine n l:Int) (i0 i1 i2 i3 i4 i5:Nat) (cm:Chunk) (R:HrS):List jdw:=[⟨i0,sdC i1 now fine (.slice none 0 0),sdC 1 now fine (.slice none 0 0),sdC i1 now fine (.slice none 0 0)⟩,⟨i1,ndC D i2 i3 i4 i5,ndC D 2 3 4 5,ndC (D.to R) i2 i3 i4 i5⟩,⟨i2,fiF F,fiF F,fiF R.F⟩,⟨i3,tblC T,tblC T,tblC R.T⟩,⟨i4,twC n l,twC n l,twC n R.l⟩,⟨i5,cm,noC,noC⟩]
abbrev sy6 (D:NdS) (F:Fil) (T:Tbl) (now fine n l:Int) (i0 i1 i2 i3 i4 i5:Nat) (cm:Chunk):List jdw:=[⟨i0,sdC i1 now fine (.slice none 0 0),sdC 1 now fine (.slice none 0 0),noC⟩,⟨i1,ndC D i2 i3 i4 i5,ndC D 2 3 4 5,noC⟩,⟨i2,fiF F,fiF F,noC⟩,⟨i3,tblC T,tblC T,tblC T⟩,⟨i4,twC n l,twC n l,noC⟩,⟨i5,cm,noC,noC⟩]
abbrev K6 (ss:List jdw) (v':Value) (h':Hp):Prop:=N (Obl (Re (partX ss 0++madeX []) (.tuple #[]) v') (N (Obl (PostS (partX ss 0++madeX []) h' ss 0) (N (Obl (PostN (partX ss 0++madeX []) h' ss.length []) (N (Obl (PostX h' ss 0/\MadeP h' []) (N True))))))))
abbrev WP6 (fn:Func) (cd:Code) (vs':List Value) (ss:List jdw):Prop:=initK vs' fn.ntmps fun t=>wpC prog tys ss.length cd (bodyQ prog tys fn fun v st=>N (EndN ss st.h v (K6 ss))) ⟨t,partH ss⟩
variable {g:FuncId} {vs:List Value} {D:NdS} {F:Fil} {T:Tbl} {now fine n l:Int} {i2 i3 i4 i5:Nat} {h:Hp} {cm:Chunk}
theorem jey {fn:Func} {cd:Code} (O:On6 D F T now fine n l i0 i1 i2 i3 i4 i5 K h cm) (R:HrS) (vs':List Value) (hf:prog.funcs[g]?=some fn) (hb:fn.body=some cd) (hr:∀ xs w,(callFunc g xs).run prog w=.ok (.enter g xs) w) (hv:All2 (Re2 (partX (ss6 D F T now fine n l i0 i1 i2 i3 i4 i5 cm R) 0)) vs vs') (hwp:WP6 fn cd vs' (ss6 D F T now fine n l i0 i1 i2 i3 i4 i5 cm R)) :
  qaf prog g vs h (.tuple #[]) [(i0,sdC i1 now fine (.slice none 0 0)),(i1,ndC (D.to R) i2 i3 i4 i5),(i2,fiF R.F),(i3,tblC R.T),(i4,twC n R.l)] [i5]:=
 qaq (fun _:Unit=>True) (fun _=>_) (ss6 D F T now fine n l i0 i1 i2 i3 i4 i5 cm R) [] vs' tysOK mixed hf hb hr ⟨O.h0,O.h1,O.h2,O.h3,O.h4,O.h5,xb⟩
  ⟨Q7x,Q6Q,Q76,Q6w,Q77,Q6B,xb⟩ (qb3 O.ne) Q8o xb hv Opens.same fun _ _=>hwp
theorem jgy {R:HrS} {h':Hp} (e0:h'[0]?=some (some (sdC 1 now fine (.slice none 0 0)))) (e1:h'[1]?=some (some (ndC (D.to R) 2 3 4 5))) (e2:h'[2]?=some (some (fiF R.F))) (e3:h'[3]?=some (some (tblC R.T))) (e4:h'[4]?=some (some (twC n R.l))):N (EndN (ss6 D F T now fine n l i0 i1 i2 i3 i4 i5 cm R) h' (.tuple #[]) (K6 (ss6 D F T now fine n l i0 i1 i2 i3 i4 i5 cm R))):=by
 refine Bq ?_;refine Q3D ?_;refine Ba ⟨⟨_,e0,id,nlr _,lt4 (.ptr Q8I) (.plain rfl) (.plain rfl) (.plain rfl)⟩,Q7L,⟨_,e2,id,nlr _,re7⟩,⟨_,e3,id,nlr _,nzj⟩,⟨_,e4,id,nlr _,re2⟩,xb⟩ ?_;refine Ba xb ?_;refine Ba ⟨Q8k,xb⟩ ?_;exact Bg
abbrev D6 (D:NdS) (now fine n:Int) (i1 i2 i3 i4 i5 K:Nat) (R:HrS) (κ:Nat):List Chunk:=[sdC i1 now fine (.slice (some ⟨K,0,some 0⟩) 1 κ),ndC (D.to R) i2 i3 i4 i5,fiF R.F,tblC R.T,twC n R.l,noC]
abbrev Y6 (ss:List jdw) (dd:Nat->List Chunk) (K sl:Nat) (x:Ou) (v':Value) (h':Hp):Prop:=N (jiq fun κ=>1<=κ/\N (Obl (Re (partX ss 0++madeX [⟨K,sl,ouR [x] κ⟩]) (.tuple #[]) v') (N (Obl (PostS (partX ss 0++madeX [⟨K,sl,ouR [x] κ⟩]) h' (setD ss (dd κ)) 0) (N (Obl (PostN (partX ss 0++madeX [⟨K,sl,ouR [x] κ⟩]) h' ss.length [⟨K,sl,ouR [x] κ⟩]) (N (Obl (PostX h' (setD ss (dd κ)) 0/\MadeP h' [⟨K,sl,ouR [x] κ⟩]) (N True)))))))))
abbrev WY6 (fn:Func) (cd:Code) (vs':List Value) (ss:List jdw) (dd:Nat->List Chunk) (K sl:Nat) (x:Ou):Prop:=initK vs' fn.ntmps fun t=>wpC prog tys ss.length cd (bodyQ prog tys fn fun v st=>N (EndN ss st.h v (Y6 ss dd K sl x))) ⟨t,partH ss⟩
theorem jk1 {fn:Func} {cd:Code} (O:On6 D F T now fine n l i0 i1 i2 i3 i4 i5 K h cm) (R:HrS) (x:Ou) (sl:Nat) (vs':List Value) (hf:prog.funcs[g]?=some fn) (hb:fn.body=some cd) (hr:∀ xs w,(callFunc g xs).run prog w=.ok (.enter g xs) w) (hv:All2 (Re2 (partX (sy6 D F T now fine n l i0 i1 i2 i3 i4 i5 cm) 0)) vs vs') (hwp:WY6 fn cd vs' (sy6 D F T now fine n l i0 i1 i2 i3 i4 i5 cm) (D6 D now fine n i1 i2 i3 i4 i5 K R) K sl x) :
  CallAll prog g vs h (fun v ms=>∃ κ:Nat,1<=κ/\v=.tuple #[]/\ms=[(i0,sdC i1 now fine (.slice (some ⟨K,0,some 0⟩) 1 κ)),(i1,ndC (D.to R) i2 i3 i4 i5),(i2,fiF R.F),(i3,tblC R.T),(i4,twC n R.l),(K,ouR [x] κ)]):=by
 refine qat (qaw (fun _:Unit=>True) (fun _=>_) (fun κ=>1<=κ) (fun _=>.tuple #[]) (sy6 D F T now fine n l i0 i1 i2 i3 i4 i5 cm) (D6 D now fine n i1 i2 i3 i4 i5 K R) (fun κ=>[⟨K,sl,ouR [x] κ⟩]) vs' tysOK mixed hf hb hr ⟨O.h0,O.h1,O.h2,O.h3,O.h4,O.h5,xb⟩ ⟨Q89,Q7l,⟨fun _=>⟨rfl,xm _⟩,nlr _,re7⟩,Q6w,Q7O,Q6B,xb⟩ (fun κ _=>⟨Q7x,Q6Q,Q76,Q6w,Q77,Q6B,xb⟩) (qb3 O.ne) Q8o (fun κ hκ=>⟨⟨O.hK,rfl,.inl (by show 0<κ*16;have:1<=κ:=hκ;omega),by simp⟩,xb⟩) hv Opens.same fun _ _=>hwp) fun v ms hR=>?_
 obtain⟨κ,hκ,rfl,rfl⟩:=hR
 exact⟨κ,hκ,rfl,rfl⟩
theorem fiY {sl:Nat} {R:HrS} {x:Ou} {κ:Nat} {h':Hp} (hκ:1<=κ) (e0:h'[0]?=some (some (sdC 1 now fine (.slice (some ⟨sl,0,some 0⟩) 1 κ)))) (e1:h'[1]?=some (some (ndC (D.to R) 2 3 4 5))) (e2:h'[2]?=some (some (fiF R.F))) (e3:h'[3]?=some (some (tblC R.T))) (e4:h'[4]?=some (some (twC n R.l))) (e6:h'[sl]?=some (some (ouR [x] κ))) (hsl:6<=sl):N (EndN (sy6 D F T now fine n l i0 i1 i2 i3 i4 i5 cm) h' (.tuple #[]) (Y6 (sy6 D F T now fine n l i0 i1 i2 i3 i4 i5 cm) (D6 D now fine n i1 i2 i3 i4 i5 K R) K sl x)):=by
 refine Bq ?_;refine Bo κ ⟨hκ,?_⟩;refine Q3D ?_;refine Ba ⟨⟨_,e0,id,nlr _,lt4 (.ptr Q8I) (.plain rfl) (.plain rfl) (.slice (q6t (l:=partX (sy6 D F T now fine n l i0 i1 i2 i3 i4 i5 cm) 0) (fun p hp=>by simp[partX] at hp;rcases hp with rfl|rfl|rfl|rfl|rfl|rfl<;>(show(_:Nat)≠sl;omega))))⟩,Q7L,⟨_,e2,id,nlr _,re7⟩,⟨_,e3,id,nlr _,nzj⟩,⟨_,e4,id,nlr _,re2⟩,xb⟩ ?_;refine Ba ⟨⟨hsl,qav e6⟩,xb⟩ ?_;refine Ba ⟨Q8k,.inl rfl,xb⟩ ?_;exact Bg
variable {m:Nat}
theorem q4y {at_:Int} (B:Rg D F f m l) (hk:f.k=2) (hl0:l=0) (O:On6 D F T now fine n l i0 i1 i2 i3 i4 i5 K h cm) :
  qaf prog 87 (hdA f at_ i0 i1) h (.tuple #[]) (m6 D now fine n i0 i1 i2 i3 i4 i5 (⟨upd D.S m ((D.S m).gotPoll at_ f.st),D.seq,l,F,T,none⟩:HrS)) [i5]:=by
 obtain⟨hm,hm64,hfr,hl,hs,hb,hF,hC⟩:=B
 refine jey O _ (hdA f at_ 0 1) func87 Q8I (call87) Q6P ?_
 repeat' (refine Bb ?_;first|refine Q55 ?_|refine Q5w ?_|refine Bf (ei hk) ?_|fail)
 refine Bb ?_
 refine Bl Q8d fun v ms hR=>?_
 obtain⟨rfl,rfl⟩:=hR
 repeat' (refine Bb ?_;first|refine Q55 ?_|refine Q5J ?_|fail)
 refine Bb ?_
 refine Bc (qur (D.se (upd D.S m ((D.S m).gotPoll at_ f.st))) now fine (.slice none 0 0) n l 3 0 0 0 0 f.s f.mk' 0 0 0 0 0 0 0 0 hl0 0 1 2 3 4 5 _ _ _ _ Q8I Q8I Q8I Q8I Q8I Q8I Q8H) ?_
 repeat' (refine Bb ?_;first|refine Q55 ?_|refine Q5b ?_|fail)
 refine Bb ?_
 exact jgy rfl rfl rfl rfl rfl
theorem q4z {at_:Int} (B:Rg D F f m l) (hk:f.k=2) (hl0:¬ l=0) (ha:((upd D.S m ((D.S m).gotPoll at_ f.st)) m).b.ansP fine) (O:On6 D F T now fine n l i0 i1 i2 i3 i4 i5 K h cm) :
  CallAll prog 87 (hdA f at_ i0 i1) h (y6 D now fine n i0 i1 i2 i3 i4 i5 K (⟨upd (upd D.S m ((D.S m).gotPoll at_ f.st)) m ⟨((upd D.S m ((D.S m).gotPoll at_ f.st)) m).a,⟨2,((upd D.S m ((D.S m).gotPoll at_ f.st)) m).b.fr,fine,(D.boot*65536+D.seq),((upd D.S m ((D.S m).gotPoll at_ f.st)) m).b.sp⟩⟩,D.seq+1,l-1,F,T,none⟩:HrS) (⟨(jja f).by D now,fine⟩)):=by
 obtain⟨hm,hm64,hfr,hl,hs,hb,hF,hC⟩:=B
 refine jk1 O _ _ 10 (hdA f at_ 0 1) func87 Q8I (call87) Q6P ?_
 repeat' (refine Bb ?_;first|refine Q55 ?_|refine Q5w ?_|refine Bf (ei hk) ?_|fail)
 refine Bb ?_
 refine Bl Q8d fun v ms hR=>?_
 obtain⟨rfl,rfl⟩:=hR
 repeat' (refine Bb ?_;first|refine Q57 ?_|fail)
 refine Bb ?_
 refine Bx ?_
 refine Bb ?_
 refine Bz [0,1,2,3,4,5,6] [(7,[8,9,10,11,12])] Q8O ?_
 repeat' (refine Bb ?_;first|refine Q55 ?_|refine Q5J ?_|fail)
 refine Bb ?_
 refine B7 [0,1,2,3,4,5,10] _ Q8O Q71 fun v ms hR=>?_
 obtain⟨κ,hκ,rfl,rfl⟩:=hR
 refine⟨by simp,?_⟩
 repeat' (refine Bb ?_;first|refine Q55 ?_|fail)
 refine Bb ?_
 refine Bl (jc6 D.g (upd D.S m ((D.S m).gotPoll at_ f.st)) m hm64 fine (D.boot*65536+D.seq) ha 1 11 Q8I Q8I) fun v ms hR=>?_
 obtain⟨rfl,rfl⟩:=hR
 repeat' (refine Bb ?_;first|refine Q55 ?_|refine Q5b ?_|fail)
 refine Bb ?_
 exact fiY hκ rfl rfl rfl rfl rfl rfl Q8H
theorem q40 {at_:Int} (B:Rg D F f m l) (hk:f.k=2) (hl0:¬ l=0) (ha:¬ ((upd D.S m ((D.S m).gotPoll at_ f.st)) m).b.ansP fine) (O:On6 D F T now fine n l i0 i1 i2 i3 i4 i5 K h cm) :
  CallAll prog 87 (hdA f at_ i0 i1) h (y6 D now fine n i0 i1 i2 i3 i4 i5 K (⟨upd (upd D.S m ((D.S m).gotPoll at_ f.st)) m ((upd D.S m ((D.S m).gotPoll at_ f.st)) m),D.seq+1,l-1,F,T,none⟩:HrS) (⟨(jja f).by D now,fine⟩)):=by
 obtain⟨hm,hm64,hfr,hl,hs,hb,hF,hC⟩:=B
 refine jk1 O _ _ 10 (hdA f at_ 0 1) func87 Q8I (call87) Q6P ?_
 repeat' (refine Bb ?_;first|refine Q55 ?_|refine Q5w ?_|refine Bf (ei hk) ?_|fail)
 refine Bb ?_
 refine Bl Q8d fun v ms hR=>?_
 obtain⟨rfl,rfl⟩:=hR
 repeat' (refine Bb ?_;first|refine Q57 ?_|fail)
 refine Bb ?_
 refine Bx ?_
 refine Bb ?_
 refine Bz [0,1,2,3,4,5,6] [(7,[8,9,10,11,12])] Q8O ?_
 repeat' (refine Bb ?_;first|refine Q55 ?_|refine Q5J ?_|fail)
 refine Bb ?_
 refine B7 [0,1,2,3,4,5,10] _ Q8O Q71 fun v ms hR=>?_
 obtain⟨κ,hκ,rfl,rfl⟩:=hR
 refine⟨by simp,?_⟩
 repeat' (refine Bb ?_;first|refine Q55 ?_|fail)
 refine Bb ?_
 refine Bl (jc7 D.g (upd D.S m ((D.S m).gotPoll at_ f.st)) m hm64 fine (D.boot*65536+D.seq) ha 1 11 Q8I Q8I) fun v ms hR=>?_
 obtain⟨rfl,rfl⟩:=hR
 repeat' (refine Bb ?_;first|refine Q55 ?_|refine Q5b ?_|fail)
 refine Bb ?_
 exact fiY hκ rfl rfl rfl rfl rfl rfl Q8H
theorem q41 {at_:Int} (B:Rg D F f m l) (hk:f.k=3) (hg:¬ (D.S m).gotRespP at_ f.t1) (O:On6 D F T now fine n l i0 i1 i2 i3 i4 i5 K h cm) :
  qaf prog 87 (hdA f at_ i0 i1) h (.tuple #[]) (m6 D now fine n i0 i1 i2 i3 i4 i5 (⟨upd D.S m (D.S m),D.seq,l,F,T,none⟩:HrS)) [i5]:=by
 obtain⟨hm,hm64,hfr,hl,hs,hb,hF,hC⟩:=B
 refine jey O _ (hdA f at_ 0 1) func87 Q8I (call87) Q6P ?_
 repeat' (refine Bb ?_;first|refine Q55 ?_|refine Q5w ?_|refine Q5n ?_|fail)
 refine Bb ?_
 refine Bl (q06 D.g D.S m hm64 at_ f.t1 hg 1 8 Q8I Q8I) fun v ms hR=>?_
 obtain⟨rfl,rfl⟩:=hR
 repeat' (refine Bb ?_;first|refine Q55 ?_|refine Q5b ?_|fail)
 refine Bb ?_
 exact jgy rfl rfl rfl rfl rfl
theorem q42 {at_:Int} (B:Rg D F f m l) (hk:f.k=3) (hg:(D.S m).gotRespP at_ f.t1) (he:¬ ((upd D.S m ⟨⟨2,(D.S m).a.fr,at_,(D.S m).a.mr,(D.S m).a.sp⟩,(D.S m).b⟩) m).a.endP fine) (O:On6 D F T now fine n l i0 i1 i2 i3 i4 i5 K h cm) :
  qaf prog 87 (hdA f at_ i0 i1) h (.tuple #[]) (m6 D now fine n i0 i1 i2 i3 i4 i5 (⟨upd (upd D.S m ⟨⟨2,(D.S m).a.fr,at_,(D.S m).a.mr,(D.S m).a.sp⟩,(D.S m).b⟩) m ((upd D.S m ⟨⟨2,(D.S m).a.fr,at_,(D.S m).a.mr,(D.S m).a.sp⟩,(D.S m).b⟩) m),D.seq,l,F,T,none⟩:HrS)) [i5]:=by
 obtain⟨hm,hm64,hfr,hl,hs,hb,hF,hC⟩:=B
 refine jey O _ (hdA f at_ 0 1) func87 Q8I (call87) Q6P ?_
 repeat' (refine Bb ?_;first|refine Q55 ?_|refine Q5w ?_|refine Q5n ?_|fail)
 refine Bb ?_
 refine Bl Q87 fun v ms hR=>?_
 obtain⟨rfl,rfl⟩:=hR
 repeat' (refine Bb ?_;first|refine Q55 ?_|refine Q5b ?_|fail)
 refine Bb ?_
 refine Bl (q9v D.g (upd D.S m ⟨⟨2,(D.S m).a.fr,at_,(D.S m).a.mr,(D.S m).a.sp⟩,(D.S m).b⟩) m hm64 fine he 1 9 Q8I Q8I) fun v ms hR=>?_
 obtain⟨rfl,rfl⟩:=hR
 repeat' (refine Bb ?_;first|refine Q55 ?_|refine Q5b ?_|fail)
 refine Bb ?_
 exact jgy rfl rfl rfl rfl rfl
theorem q43 {at_:Int} (B:Rg D F f m l) (hk:f.k=3) (hg:(D.S m).gotRespP at_ f.t1) (he:((upd D.S m ⟨⟨2,(D.S m).a.fr,at_,(D.S m).a.mr,(D.S m).a.sp⟩,(D.S m).b⟩) m).a.endP fine) (hl0:l=0) (O:On6 D F T now fine n l i0 i1 i2 i3 i4 i5 K h cm) :
  qaf prog 87 (hdA f at_ i0 i1) h (.tuple #[]) (m6 D now fine n i0 i1 i2 i3 i4 i5 (⟨upd (upd D.S m ⟨⟨2,(D.S m).a.fr,at_,(D.S m).a.mr,(D.S m).a.sp⟩,(D.S m).b⟩) m ⟨Half.o,((upd D.S m ⟨⟨2,(D.S m).a.fr,at_,(D.S m).a.mr,(D.S m).a.sp⟩,(D.S m).b⟩) m).b⟩,D.seq,l,F,T,none⟩:HrS)) [i5]:=by
 obtain⟨hm,hm64,hfr,hl,hs,hb,hF,hC⟩:=B
 refine jey O _ (hdA f at_ 0 1) func87 Q8I (call87) Q6P ?_
 repeat' (refine Bb ?_;first|refine Q55 ?_|refine Q5w ?_|refine Q5n ?_|fail)
 refine Bb ?_
 refine Bl Q87 fun v ms hR=>?_
 obtain⟨rfl,rfl⟩:=hR
 repeat' (refine Bb ?_;first|refine Q55 ?_|refine Q5b ?_|fail)
 refine Bb ?_
 refine Bl Q7T fun v ms hR=>?_
 obtain⟨rfl,rfl⟩:=hR
 repeat' (refine Bb ?_;first|refine Q55 ?_|refine Q5J ?_|fail)
 refine Bb ?_
 refine Bc (qur (D.se (upd (upd D.S m ⟨⟨2,(D.S m).a.fr,at_,(D.S m).a.mr,(D.S m).a.sp⟩,(D.S m).b⟩) m ⟨Half.o,((upd D.S m ⟨⟨2,(D.S m).a.fr,at_,(D.S m).a.mr,(D.S m).a.sp⟩,(D.S m).b⟩) m).b⟩)) now fine (.slice none 0 0) n l 4 0 0 0 0 f.s (IntKind.i64.wrap (((upd D.S m ⟨⟨2,(D.S m).a.fr,at_,(D.S m).a.mr,(D.S m).a.sp⟩,(D.S m).b⟩) m).a.to-((upd D.S m ⟨⟨2,(D.S m).a.fr,at_,(D.S m).a.mr,(D.S m).a.sp⟩,(D.S m).b⟩) m).a.fr)) (IntKind.i64.wrap (fine-((upd D.S m ⟨⟨2,(D.S m).a.fr,at_,(D.S m).a.mr,(D.S m).a.sp⟩,(D.S m).b⟩) m).a.to)) 0 f.mk' 0 0 0 0 0 hl0 0 1 2 3 4 5 _ _ _ _ Q8I Q8I Q8I Q8I Q8I Q8I Q8H) ?_
 repeat' (refine Bb ?_;first|refine Q55 ?_|refine Q5b ?_|fail)
 refine Bb ?_
 exact jgy rfl rfl rfl rfl rfl
theorem q44 {at_:Int} (B:Rg D F f m l) (hk:f.k=3) (hg:(D.S m).gotRespP at_ f.t1) (he:((upd D.S m ⟨⟨2,(D.S m).a.fr,at_,(D.S m).a.mr,(D.S m).a.sp⟩,(D.S m).b⟩) m).a.endP fine) (hl0:¬ l=0) (O:On6 D F T now fine n l i0 i1 i2 i3 i4 i5 K h cm) :
  CallAll prog 87 (hdA f at_ i0 i1) h (y6 D now fine n i0 i1 i2 i3 i4 i5 K (⟨upd (upd D.S m ⟨⟨2,(D.S m).a.fr,at_,(D.S m).a.mr,(D.S m).a.sp⟩,(D.S m).b⟩) m ⟨Half.o,((upd D.S m ⟨⟨2,(D.S m).a.fr,at_,(D.S m).a.mr,(D.S m).a.sp⟩,(D.S m).b⟩) m).b⟩,D.seq+1,l-1,F,T,none⟩:HrS) (⟨(joz f (IntKind.i64.wrap (((upd D.S m ⟨⟨2,(D.S m).a.fr,at_,(D.S m).a.mr,(D.S m).a.sp⟩,(D.S m).b⟩) m).a.to-((upd D.S m ⟨⟨2,(D.S m).a.fr,at_,(D.S m).a.mr,(D.S m).a.sp⟩,(D.S m).b⟩) m).a.fr)) (IntKind.i64.wrap (fine-((upd D.S m ⟨⟨2,(D.S m).a.fr,at_,(D.S m).a.mr,(D.S m).a.sp⟩,(D.S m).b⟩) m).a.to))).by D now,fine⟩)):=by
 obtain⟨hm,hm64,hfr,hl,hs,hb,hF,hC⟩:=B
 refine jk1 O _ _ 11 (hdA f at_ 0 1) func87 Q8I (call87) Q6P ?_
 repeat' (refine Bb ?_;first|refine Q55 ?_|refine Q5w ?_|refine Q5n ?_|fail)
 refine Bb ?_
 refine Bl Q87 fun v ms hR=>?_
 obtain⟨rfl,rfl⟩:=hR
 repeat' (refine Bb ?_;first|refine Q55 ?_|refine Q5b ?_|fail)
 refine Bb ?_
 refine Bl Q7T fun v ms hR=>?_
 obtain⟨rfl,rfl⟩:=hR
 repeat' (refine Bb ?_;first|refine Q57 ?_|fail)
 refine Bb ?_
 refine Bx ?_
 refine Bb ?_
 refine Bz [0,1,2,3,4,5,6,7,8] [(9,[])] Q8O ?_
 repeat' (refine Bb ?_;first|refine Q55 ?_|refine Q5J ?_|fail)
 refine Bb ?_
 refine B7 [0,1,2,3,4,5,11] _ Q8O (fun h₂ hh=>ql2 (D.se (upd (upd D.S m ⟨⟨2,(D.S m).a.fr,at_,(D.S m).a.mr,(D.S m).a.sp⟩,(D.S m).b⟩) m ⟨Half.o,((upd D.S m ⟨⟨2,(D.S m).a.fr,at_,(D.S m).a.mr,(D.S m).a.sp⟩,(D.S m).b⟩) m).b⟩)) (joz f (IntKind.i64.wrap (((upd D.S m ⟨⟨2,(D.S m).a.fr,at_,(D.S m).a.mr,(D.S m).a.sp⟩,(D.S m).b⟩) m).a.to-((upd D.S m ⟨⟨2,(D.S m).a.fr,at_,(D.S m).a.mr,(D.S m).a.sp⟩,(D.S m).b⟩) m).a.fr)) (IntKind.i64.wrap (fine-((upd D.S m ⟨⟨2,(D.S m).a.fr,at_,(D.S m).a.mr,(D.S m).a.sp⟩,(D.S m).b⟩) m).a.to))) now fine n l Q8G hs hb 0 1 2 3 4 5 11 h₂ _ _ _ Q8b ((hh 1 Q8R).trans rfl) ((hh 2 Q8R).trans rfl) ((hh 3 Q8R).trans rfl) ((hh 4 Q8R).trans rfl) ((hh 5 Q8R).trans rfl) ((hh 11 Q8R).trans rfl) Q8H) fun v ms hR=>?_
 obtain⟨κ,hκ,rfl,rfl⟩:=hR
 refine⟨by simp,?_⟩
 repeat' (refine Bb ?_;first|refine Q55 ?_|refine Q5b ?_|fail)
 refine Bb ?_
 exact fiY hκ rfl rfl rfl rfl rfl rfl Q8H
theorem q9w {at_:Int} (B:Rg D F f m l) (hk:f.k=4) (hg:¬ (D.S m).gotFinalP at_ f.wn) (O:On6 D F T now fine n l i0 i1 i2 i3 i4 i5 K h cm) :
  qaf prog 87 (hdA f at_ i0 i1) h (.tuple #[]) (m6 D now fine n i0 i1 i2 i3 i4 i5 (⟨upd D.S m (D.S m),D.seq,l,F,T,none⟩:HrS)) [i5]:=by
 obtain⟨hm,hm64,hfr,hl,hs,hb,hF,hC⟩:=B
 refine jey O _ (hdA f at_ 0 1) func87 Q8I (call87) Q6P ?_
 repeat' (refine Bb ?_;first|refine Q55 ?_|refine Q5w ?_|refine Q5n ?_|fail)
 refine Bb ?_
 refine Bl (qww D.g D.S m hm64 at_ f.t1 f.t2 f.wn hg 1 8 Q8I Q8I) fun v ms hR=>?_
 obtain⟨rfl,rfl⟩:=hR
 repeat' (refine Bb ?_;first|refine Q55 ?_|refine Q5b ?_|fail)
 refine Bb ?_
 exact jgy rfl rfl rfl rfl rfl
theorem q9x {at_:Int} (B:Rg D F f m l) (hk:f.k=4) (hg:(D.S m).gotFinalP at_ f.wn) (O:On6 D F T now fine n l i0 i1 i2 i3 i4 i5 K h cm) :
  qaf prog 87 (hdA f at_ i0 i1) h (.tuple #[]) (m6 D now fine n i0 i1 i2 i3 i4 i5 (⟨upd D.S m ⟨(D.S m).a,Half.o⟩,D.seq,l,qbj D F T f.s f.t1 (IntKind.i64.wrap ((D.S m).b.to-(D.S m).b.fr)) f.t2 (IntKind.i64.wrap (at_-(D.S m).b.to)) (D.S m).b.sp now,T,none⟩:HrS)) [i5]:=by
 obtain⟨hm,hm64,hfr,hl,hs,hb,hF,hC⟩:=B
 refine jey O _ (hdA f at_ 0 1) func87 Q8I (call87) Q6P ?_
 repeat' (refine Bb ?_;first|refine Q55 ?_|refine Q5w ?_|refine Q5n ?_|fail)
 refine Bb ?_
 refine Bl (qwv D.g D.S m hm64 at_ f.t1 f.t2 f.wn hg 1 8 Q8I Q8I) fun v ms hR=>?_
 obtain⟨rfl,rfl⟩:=hR
 repeat' (refine Bb ?_;first|refine Q55 ?_|refine Q5b ?_|fail)
 refine Bb ?_
 refine Bc (qs2 (D.se (upd D.S m ⟨(D.S m).a,Half.o⟩)) F T _ f.s f.t1 _ f.t2 _ _ now hF hC 1 2 3 (q0r _ _ _ _ _) _ Q8I Q8I Q8I Q8H) ?_
 repeat' (refine Bb ?_;first|refine Q55 ?_|refine Q5b ?_|fail)
 refine Bb ?_
 exact jgy rfl rfl rfl rfl rfl
def qbk (D:NdS) (l:Int) (F:Fil) (T:Tbl) (m:Nat) (f:Frm) (at_ now fine:Int):HrS:=
 if f.k=2 then jic D l F T m f at_ now fine else if f.k=3 then jhr D l F T m f at_ now fine else qvd D l F T m f at_ now
def Tbl.leave (T:Tbl) (n:Int):Tbl:=match T.lives n with
 | some l=>⟨T.most,jfu T.E n,setL T.lives n ⟨l.boot,true,l.W⟩⟩
 | none=>T
def NdS.no (D:NdS) (l:Int) (F:Fil) (T:Tbl):HrS:=⟨D.S,D.seq,l,F,T,none⟩
def jet (D:NdS) (l:Int) (F:Fil) (T:Tbl) (m:Nat) (f:Frm) (at_ now fine:Int):HrS:=
 if f.k=5 then D.no l F (jhq D.C T f.s f.el f.st now)
 else if f.k=6 then D.no l (qbp D F T f now).1 (qbp D F T f now).2
 else if f.k=2\/f.k=3\/f.k=4 then (if f.ds=D.id then qbk D l F T m f at_ now fine else D.no l F T)
 else if f.k=7 then D.no l F (T.leave f.s)
 else D.no l F T
theorem qve {s:Ses} {t m:Int}:s.resp t m=if s.b.ansP t then ⟨s.a,⟨2,s.b.fr,t,m,s.b.sp⟩⟩ else s:=rfl
theorem hrN {r r':HrS} {rh:List Nat} (e:r=r') (ho:r.o=none) (hc:qaf prog g vs h (.tuple #[]) [(i0,sdC i1 now fine (.slice none 0 0)),(i1,ndC (D.to r) i2 i3 i4 i5),(i2,fiF r.F),(i3,tblC r.T),(i4,twC n r.l)] rh):CallAll prog g vs h (hrR D now fine n r' i0 i1 i2 i3 i4 i5 K):=Q4n
theorem hrY {r r':HrS} {x:Ou} (e:r'=⟨r.S,r.seq,r.l,r.F,r.T,some x⟩) (hc:CallAll prog g vs h fun v ms=>∃ κ:Nat,1<=κ/\v=.tuple #[]/\ms=[(i0,sdC i1 now fine (.slice (some ⟨K,0,some 0⟩) 1 κ)),(i1,ndC (D.to r) i2 i3 i4 i5),(i2,fiF r.F),(i3,tblC r.T),(i4,twC n r.l),(K,ouR [x] κ)]):CallAll prog g vs h (hrR D now fine n r' i0 i1 i2 i3 i4 i5 K):=by
 subst e;refine qat hc fun v ms hR=>?_
 obtain⟨κ,hκ,rfl,rfl⟩:=hR;exact⟨rfl,κ,hκ,rfl⟩
theorem qhj {at_:Int} (B:Rg D F f m l) (hk:f.k=2\/f.k=3\/f.k=4) (O:On6 D F T now fine n l i0 i1 i2 i3 i4 i5 K h cm) :
  CallAll prog 87 (hdA f at_ i0 i1) h (hrR D now fine n (qbk D l F T m f at_ now fine) i0 i1 i2 i3 i4 i5 K):=by
 unfold qbk
 by_cases q2:f.k=2
 ·rw[if_pos q2];by_cases hl0:l=0
  ·refine hrN ?_ rfl (q4y B q2 hl0 O);unfold jic;rw[if_pos hl0]
  ·by_cases ha:((upd D.S m ((D.S m).gotPoll at_ f.st)) m).b.ansP fine
   ·refine hrY ?_ (q4z B q2 hl0 ha O);unfold jic;rw[if_neg hl0,qve,if_pos ha]
   ·refine hrY ?_ (q40 B q2 hl0 ha O);unfold jic;rw[if_neg hl0,qve,if_neg ha]
 ·rw[if_neg q2];by_cases q3:f.k=3
  ·rw[if_pos q3];by_cases hg:(D.S m).gotRespP at_ f.t1
   ·have e1:(D.S m).gotResp at_ f.t1=⟨⟨2,(D.S m).a.fr,at_,(D.S m).a.mr,(D.S m).a.sp⟩,(D.S m).b⟩:=by
     unfold Ses.gotResp Half.ans;rw[if_pos hg,if_pos hg.2]
    have e2:jhr D l F T m f at_ now fine=jhr D l F T m f at_ now fine:=rfl
    conv at e2=>rhs;unfold jhr;rw[if_pos hg,e1]
    rw[e2];by_cases he:(upd D.S m (⟨⟨2,(D.S m).a.fr,at_,(D.S m).a.mr,(D.S m).a.sp⟩,(D.S m).b⟩:Ses) m).a.endP fine
    ·have e3:(upd D.S m (⟨⟨2,(D.S m).a.fr,at_,(D.S m).a.mr,(D.S m).a.sp⟩,(D.S m).b⟩:Ses) m).final fine=⟨Half.o,(upd D.S m (⟨⟨2,(D.S m).a.fr,at_,(D.S m).a.mr,(D.S m).a.sp⟩,(D.S m).b⟩:Ses) m).b⟩:=by
      unfold Ses.final;rw[if_pos he]
     rw[if_pos he,e3];by_cases hl0:l=0
     ·rw[if_pos hl0];exact hrN rfl rfl (q43 B q3 hg he hl0 O)
     ·rw[if_neg hl0];exact hrY rfl (q44 B q3 hg he hl0 O)
    ·rw[if_neg he];exact hrN rfl rfl (q42 B q3 hg he O)
   ·refine hrN ?_ rfl (q41 B q3 hg O);unfold jhr;rw[if_neg hg]
  ·rw[if_neg q3];have q4:f.k=4:=by omega
   by_cases hg:(D.S m).gotFinalP at_ f.wn
   ·refine hrN ?_ rfl (q9x B q4 hg O);have e1:(D.S m).gotFinal at_ f.wn=⟨(D.S m).a,Half.o⟩:=by unfold Ses.gotFinal;rw[if_pos hg]
    unfold qvd;rw[if_pos hg,e1]
   ·refine hrN ?_ rfl (q9w B q4 hg O);unfold qvd;rw[if_neg hg]
theorem jc8 {at_:Int} (B:Rg D F f m l) (hk:f.k=5) (O:On6 D F T now fine n l i0 i1 i2 i3 i4 i5 K h cm) :
  qaf prog 49 (hdA f at_ i0 i1) h (.tuple #[]) (m6 D now fine n i0 i1 i2 i3 i4 i5 (D.no l F (jhq D.C T f.s f.el f.st now))) [i5]:=by
 obtain⟨hm,hm64,hfr,hl,hs,hb,hF,hC⟩:=B
 refine jey O _ (hdA f at_ 0 1) func49 Q8I (call49) Q6P ?_
 repeat' (refine Bb ?_;first|refine Q55 ?_|refine Bf (ei hk) ?_|refine Bc (q6o D T _ _ f.s f.el f.st now Q8G 1 2 3 (q0r _ _ _ _ _) _ Q8I Q8I Q8I Q8H) ?_|fail)
 refine Bb ?_
 exact jgy rfl rfl rfl rfl rfl
theorem jc9 {at_:Int} (B:Rg D F f m l) (hk:f.k=6) (hw:0<=f.wh/\f.wh<64) (O:On6 D F T now fine n l i0 i1 i2 i3 i4 i5 K h cm) :
  qaf prog 49 (hdA f at_ i0 i1) h (.tuple #[]) (m6 D now fine n i0 i1 i2 i3 i4 i5 (D.no l (qbp D F T f now).1 (qbp D F T f now).2)) [i5]:=by
 obtain⟨hm,hm64,hfr,hl,hs,hb,hF,hC⟩:=B
 refine jey O _ (hdA f at_ 0 1) func49 Q8I (call49) Q6P ?_
 repeat' (refine Bb ?_;first|refine Q55 ?_|refine Q5n ?_|refine Bc (qwu D F T _ _ f at_ now fine hF hw 0 1 2 3 (jc3 _ _ _ _) (q0r _ _ _ _ _) _ Q8I Q8I Q8I Q8I Q8H) ?_|fail)
 refine Bb ?_
 exact jgy rfl rfl rfl rfl rfl
theorem jda {at_:Int} (B:Rg D F f m l) (hk:f.k=1) (O:On6 D F T now fine n l i0 i1 i2 i3 i4 i5 K h cm) :
  qaf prog 49 (hdA f at_ i0 i1) h (.tuple #[]) (m6 D now fine n i0 i1 i2 i3 i4 i5 (D.no l F T)) [i5]:=by
 obtain⟨hm,hm64,hfr,hl,hs,hb,hF,hC⟩:=B
 refine jey O _ (hdA f at_ 0 1) func49 Q8I (call49) Q6P ?_
 repeat' (refine Bb ?_;first|refine Q55 ?_|refine Be Q9i ?_|fail)
 refine Bb ?_
 exact jgy rfl rfl rfl rfl rfl
theorem jdb {at_:Int} (B:Rg D F f m l) (hk:f.k=7) (lf:jf2) (hlf:T.lives f.s=some lf) (O:On6 D F T now fine n l i0 i1 i2 i3 i4 i5 K h cm) :
  qaf prog 49 (hdA f at_ i0 i1) h (.tuple #[]) (m6 D now fine n i0 i1 i2 i3 i4 i5 (D.no l F ⟨T.most,jfu T.E f.s,setL T.lives f.s ⟨lf.boot,true,lf.W⟩⟩)) [i5]:=by
 obtain⟨hm,hm64,hfr,hl,hs,hb,hF,hC⟩:=B
 refine jey O _ (hdA f at_ 0 1) func49 Q8I (call49) Q6P ?_
 repeat' (refine Bb ?_;first|refine Q55 ?_|refine Q5n ?_|refine Bc (q7i T f.s Q8G lf hlf 3 _ Q8I) ?_|fail)
 refine Bb ?_
 exact jgy rfl rfl rfl rfl rfl
theorem jdc {at_:Int} (B:Rg D F f m l) (hk:f.k=7) (hlf:T.lives f.s=none) (O:On6 D F T now fine n l i0 i1 i2 i3 i4 i5 K h cm) :
  qaf prog 49 (hdA f at_ i0 i1) h (.tuple #[]) (m6 D now fine n i0 i1 i2 i3 i4 i5 (D.no l F T)) [i5]:=by
 obtain⟨hm,hm64,hfr,hl,hs,hb,hF,hC⟩:=B
 refine jey O _ (hdA f at_ 0 1) func49 Q8I (call49) Q6P ?_
 repeat' (refine Bb ?_;first|refine Q55 ?_|refine Q5n ?_|refine Bc (q7j T f.s hlf 3 _ Q8I) ?_|fail)
 refine Bb ?_
 exact jgy rfl rfl rfl rfl rfl
theorem q9y {at_:Int} (B:Rg D F f m l) (hk:f.k=2) (hd:¬ f.ds=D.id) (O:On6 D F T now fine n l i0 i1 i2 i3 i4 i5 K h cm) :
  qaf prog 49 (hdA f at_ i0 i1) h (.tuple #[]) (m6 D now fine n i0 i1 i2 i3 i4 i5 (D.no l F T)) [i5]:=by
 obtain⟨hm,hm64,hfr,hl,hs,hb,hF,hC⟩:=B
 refine jey O _ (hdA f at_ 0 1) func49 Q8I (call49) Q6P ?_
 repeat' (refine Bb ?_;first|refine Q55 ?_|refine Q5n ?_|refine Q5K ?_|fail)
 refine Bb ?_
 exact jgy rfl rfl rfl rfl rfl
theorem q9z {at_:Int} (B:Rg D F f m l) (hk:f.k=3) (hd:¬ f.ds=D.id) (O:On6 D F T now fine n l i0 i1 i2 i3 i4 i5 K h cm) :
  qaf prog 49 (hdA f at_ i0 i1) h (.tuple #[]) (m6 D now fine n i0 i1 i2 i3 i4 i5 (D.no l F T)) [i5]:=by
 obtain⟨hm,hm64,hfr,hl,hs,hb,hF,hC⟩:=B
 refine jey O _ (hdA f at_ 0 1) func49 Q8I (call49) Q6P ?_
 repeat' (refine Bb ?_;first|refine Q55 ?_|refine Q5n ?_|refine Q5K ?_|fail)
 refine Bb ?_
 exact jgy rfl rfl rfl rfl rfl
theorem q90 {at_:Int} (B:Rg D F f m l) (hk:f.k=4) (hd:¬ f.ds=D.id) (O:On6 D F T now fine n l i0 i1 i2 i3 i4 i5 K h cm) :
  qaf prog 49 (hdA f at_ i0 i1) h (.tuple #[]) (m6 D now fine n i0 i1 i2 i3 i4 i5 (D.no l F T)) [i5]:=by
 obtain⟨hm,hm64,hfr,hl,hs,hb,hF,hC⟩:=B
 refine jey O _ (hdA f at_ 0 1) func49 Q8I (call49) Q6P ?_
 repeat' (refine Bb ?_;first|refine Q55 ?_|refine Q5n ?_|refine Q5K ?_|fail)
 refine Bb ?_
 exact jgy rfl rfl rfl rfl rfl
theorem q91 {at_:Int} (B:Rg D F f m l) (hk:f.k=2) (hd:f.ds=D.id) (ho:(qbk D l F T m f at_ now fine).o=none) (O:On6 D F T now fine n l i0 i1 i2 i3 i4 i5 K h cm) :
  qaf prog 49 (hdA f at_ i0 i1) h (.tuple #[]) (m6 D now fine n i0 i1 i2 i3 i4 i5 (qbk D l F T m f at_ now fine)) [i5]:=by
 obtain⟨hm,hm64,hfr,hl,hs,hb,hF,hC⟩:=B
 refine jey O _ (hdA f at_ 0 1) func49 Q8I (call49) Q6P ?_
 repeat' (refine Bb ?_;first|refine Q55 ?_|refine Q5n ?_|refine Q5K ?_|fail)
 refine Bb ?_
 refine Bl Q6z fun v ms hR=>?_
 obtain⟨rfl,hR⟩:=hR
 rw[ho] at hR
 obtain rfl:=hR
 repeat' (refine Bb ?_;first|refine Q55 ?_|fail)
 refine Bb ?_
 exact jgy rfl rfl rfl rfl rfl
theorem q92 {at_:Int} (B:Rg D F f m l) (hk:f.k=2) (hd:f.ds=D.id) (x:Ou) (ho:(qbk D l F T m f at_ now fine).o=some x) (O:On6 D F T now fine n l i0 i1 i2 i3 i4 i5 K h cm) :
  CallAll prog 49 (hdA f at_ i0 i1) h (y6 D now fine n i0 i1 i2 i3 i4 i5 K (qbk D l F T m f at_ now fine) (x)):=by
 obtain⟨hm,hm64,hfr,hl,hs,hb,hF,hC⟩:=B
 refine jk1 O _ _ 7 (hdA f at_ 0 1) func49 Q8I (call49) Q6P ?_
 repeat' (refine Bb ?_;first|refine Q55 ?_|refine Q5n ?_|refine Q5K ?_|fail)
 refine Bb ?_
 refine Bl Q6z fun v ms hR=>?_
 obtain⟨rfl,hR⟩:=hR
 rw[ho] at hR
 obtain⟨κ,hκ,rfl⟩:=hR
 repeat' (refine Bb ?_;first|refine Q55 ?_|fail)
 refine Bb ?_
 exact fiY hκ rfl rfl rfl rfl rfl rfl Q8H
theorem q93 {at_:Int} (B:Rg D F f m l) (hk:f.k=3) (hd:f.ds=D.id) (ho:(qbk D l F T m f at_ now fine).o=none) (O:On6 D F T now fine n l i0 i1 i2 i3 i4 i5 K h cm) :
  qaf prog 49 (hdA f at_ i0 i1) h (.tuple #[]) (m6 D now fine n i0 i1 i2 i3 i4 i5 (qbk D l F T m f at_ now fine)) [i5]:=by
 obtain⟨hm,hm64,hfr,hl,hs,hb,hF,hC⟩:=B
 refine jey O _ (hdA f at_ 0 1) func49 Q8I (call49) Q6P ?_
 repeat' (refine Bb ?_;first|refine Q55 ?_|refine Q5n ?_|refine Q5K ?_|fail)
 refine Bb ?_
 refine Bl Q6z fun v ms hR=>?_
 obtain⟨rfl,hR⟩:=hR
 rw[ho] at hR
 obtain rfl:=hR
 repeat' (refine Bb ?_;first|refine Q55 ?_|fail)
 refine Bb ?_
 exact jgy rfl rfl rfl rfl rfl
theorem q94 {at_:Int} (B:Rg D F f m l) (hk:f.k=3) (hd:f.ds=D.id) (x:Ou) (ho:(qbk D l F T m f at_ now fine).o=some x) (O:On6 D F T now fine n l i0 i1 i2 i3 i4 i5 K h cm) :
  CallAll prog 49 (hdA f at_ i0 i1) h (y6 D now fine n i0 i1 i2 i3 i4 i5 K (qbk D l F T m f at_ now fine) (x)):=by
 obtain⟨hm,hm64,hfr,hl,hs,hb,hF,hC⟩:=B
 refine jk1 O _ _ 7 (hdA f at_ 0 1) func49 Q8I (call49) Q6P ?_
 repeat' (refine Bb ?_;first|refine Q55 ?_|refine Q5n ?_|refine Q5K ?_|fail)
 refine Bb ?_
 refine Bl Q6z fun v ms hR=>?_
 obtain⟨rfl,hR⟩:=hR
 rw[ho] at hR
 obtain⟨κ,hκ,rfl⟩:=hR
 repeat' (refine Bb ?_;first|refine Q55 ?_|fail)
 refine Bb ?_
 exact fiY hκ rfl rfl rfl rfl rfl rfl Q8H
theorem q95 {at_:Int} (B:Rg D F f m l) (hk:f.k=4) (hd:f.ds=D.id) (ho:(qbk D l F T m f at_ now fine).o=none) (O:On6 D F T now fine n l i0 i1 i2 i3 i4 i5 K h cm) :
  qaf prog 49 (hdA f at_ i0 i1) h (.tuple #[]) (m6 D now fine n i0 i1 i2 i3 i4 i5 (qbk D l F T m f at_ now fine)) [i5]:=by
 obtain⟨hm,hm64,hfr,hl,hs,hb,hF,hC⟩:=B
 refine jey O _ (hdA f at_ 0 1) func49 Q8I (call49) Q6P ?_
 repeat' (refine Bb ?_;first|refine Q55 ?_|refine Q5n ?_|refine Q5K ?_|fail)
 refine Bb ?_
 refine Bl Q6z fun v ms hR=>?_
 obtain⟨rfl,hR⟩:=hR
 rw[ho] at hR
 obtain rfl:=hR
 repeat' (refine Bb ?_;first|refine Q55 ?_|fail)
 refine Bb ?_
 exact jgy rfl rfl rfl rfl rfl
theorem q96 {at_:Int} (B:Rg D F f m l) (hk:f.k=4) (hd:f.ds=D.id) (x:Ou) (ho:(qbk D l F T m f at_ now fine).o=some x) (O:On6 D F T now fine n l i0 i1 i2 i3 i4 i5 K h cm) :
  CallAll prog 49 (hdA f at_ i0 i1) h (y6 D now fine n i0 i1 i2 i3 i4 i5 K (qbk D l F T m f at_ now fine) (x)):=by
 obtain⟨hm,hm64,hfr,hl,hs,hb,hF,hC⟩:=B
 refine jk1 O _ _ 7 (hdA f at_ 0 1) func49 Q8I (call49) Q6P ?_
 repeat' (refine Bb ?_;first|refine Q55 ?_|refine Q5n ?_|refine Q5K ?_|fail)
 refine Bb ?_
 refine Bl Q6z fun v ms hR=>?_
 obtain⟨rfl,hR⟩:=hR
 rw[ho] at hR
 obtain⟨κ,hκ,rfl⟩:=hR
 repeat' (refine Bb ?_;first|refine Q55 ?_|fail)
 refine Bb ?_
 exact fiY hκ rfl rfl rfl rfl rfl rfl Q8H
theorem q08 {at_:Int} (B:Rg D F f m l) (hok:f.own) (O:On6 D F T now fine n l i0 i1 i2 i3 i4 i5 K h cm) :
  CallAll prog 49 (hdA f at_ i0 i1) h (hrR D now fine n (jet D l F T m f at_ now fine) i0 i1 i2 i3 i4 i5 K):=by
 have B0:=B
 obtain⟨hm,hm64,hfr,hl,hs,hb,hF,hC⟩:=B
 have B:=B0
 have rg:∀ k,(k=2\/k=3\/k=4)->f.k=k->jet D l F T m f at_ now fine=if f.ds=D.id then qbk D l F T m f at_ now fine else D.no l F T:=fun k hk e=>by
  unfold jet;rw[if_neg Q8G,if_neg Q8G,if_pos Q8G]
 by_cases k5:f.k=5
 ·refine hrN ?_ rfl (jc8 B k5 O);unfold jet;rw[if_pos k5]
 by_cases k6:f.k=6
 ·have hw:0<=f.wh/\f.wh<64:=by
   unfold Frm.own at hok;rw[if_neg Q8G,if_neg Q8G,if_neg Q8G,if_neg Q8G,if_neg Q8G,if_neg Q8G,if_pos k6] at hok;exact hok.1
  refine hrN ?_ rfl (jc9 B k6 hw O);unfold jet;rw[if_neg k5,if_pos k6]
 by_cases k7:f.k=7
 ·cases hlf:T.lives f.s with
  | some lf=>
   refine hrN ?_ rfl (jdb B k7 lf hlf O);exact Q4P
  | none=>
   refine hrN ?_ rfl (jdc B k7 hlf O);exact Q4P
 by_cases k1:f.k=1
 ·refine hrN ?_ rfl (jda B k1 O);unfold jet;rw[if_neg k5,if_neg k6,if_neg Q8G,if_neg k7]
 by_cases k2:f.k=2
 ·rw[rg 2 Q8G k2];by_cases hd:f.ds=D.id
  ·rw[if_pos hd];cases ho:(qbk D l F T m f at_ now fine).o with
   | none=>exact hrN rfl ho (q91 B k2 hd ho O)
   | some x=>exact hrY (by rw[<-ho]) (q92 B k2 hd x ho O)
  ·rw[if_neg hd];exact hrN rfl rfl (q9y B k2 hd O)
 by_cases k3:f.k=3
 ·rw[rg 3 Q8G k3];by_cases hd:f.ds=D.id
  ·rw[if_pos hd];cases ho:(qbk D l F T m f at_ now fine).o with
   | none=>exact hrN rfl ho (q93 B k3 hd ho O)
   | some x=>exact hrY (by rw[<-ho]) (q94 B k3 hd x ho O)
  ·rw[if_neg hd];exact hrN rfl rfl (q9z B k3 hd O)
 by_cases k4:f.k=4
 ·rw[rg 4 Q8G k4];by_cases hd:f.ds=D.id
  ·rw[if_pos hd];cases ho:(qbk D l F T m f at_ now fine).o with
   | none=>exact hrN rfl ho (q95 B k4 hd ho O)
   | some x=>exact hrY (by rw[<-ho]) (q96 B k4 hd x ho O)
  ·rw[if_neg hd];exact hrN rfl rfl (q90 B k4 hd O)
 ·exfalso;unfold Frm.own at hok;rw[if_neg k1,if_neg k7,if_neg k2,if_neg k3,if_neg k4,if_neg k5,if_neg k6] at hok;exact hok
open Go Go.RowKit Sx
end Go.Proofs.YtfkngpmgcimdbaaGreat


namespace Go.Proofs.YtfkngpmgcimdbaaGreat.Sx
open Go Go.RowKit
def sh2 (l:Nat):Nat:=match l with
 | 0=>0
 | l+1=>l+2
theorem jdd (l:Nat):sh2 l≠1:=by cases l<;>simp[sh2]
theorem qs4 {B:Type} {ok:B->Prop} {h:B->Hp} {i j:Nat} {c d c2 e2 d2:Chunk} (o:B->Hp) (ix:List (Nat×Nat)) (hix:∀ l i,(l,i)∈ix->i=sh2 l) (hn2:e2.n=0) (h1:∀ β,(o β)[1]?=some (some e2))
  (hre:∀ β,ok β->∀ (l:Nat) (dl:Chunk),(h β)[l]?=some (some dl)->∃ d':Chunk,(o β)[sh2 l]?=some (some d')/\d'.n=dl.n/\d'.x=dl.x/\∀ k,k<d'.n->Re1 ix (d'.f k) (dl.f k))
  (hre':∀ β,ok β->∀ (k:Nat) (d':Chunk),(o β)[k]?=some (some d')->k=1\/∃ l,k=sh2 l/\Sx.Fil (h β) l):Opens [⟨i,c,packC ok h,d⟩,⟨j,c2,e2,d2⟩] ok o:=fun X ρ w T H=>by
 obtain⟨S,E⟩:=H.ext
 have g0:(partH [⟨i,c,packC ok h,d⟩,⟨j,c2,e2,d2⟩])[0]?=some (some (packC ok h)):=rfl
 have g1:(partH [⟨i,c,packC ok h,d⟩,⟨j,c2,e2,d2⟩])[1]?=some (some e2):=rfl
 have two:∀ (k:Nat) (e:Chunk),(partH [⟨i,c,packC ok h,d⟩,⟨j,c2,e2,d2⟩])[k]?=some (some e)->k=0\/k=1:=fun k e hk=>by
  match k,hk with
  | 0,_=>exact .inl rfl
  | 1,_=>exact .inr rfl
  | k+2,hk=>simp[partH] at hk
 obtain⟨_,β,hβ,ρp,Tp,e0,hf,K⟩:=E.inv 0 _ g0
 have n0:X.n0=2:=T.n0
 let un:Nat->Nat:=fun k=>match k with
  | 0=>0
  | k+1=>k
 have un_sh:∀ l,un (sh2 l)=l:=fun l=>by cases l<;>rfl
 let ρ':Nat->Nat×Nat:=fun k=>if k=1 then ρ 1 else ρp (un k)
 have ρ1:ρ' 1=ρ 1:=if_pos rfl
 have ρs:∀ l,ρ' (sh2 l)=ρp l:=fun l=>by
  show(if sh2 l=1 then ρ 1 else ρp (un (sh2 l)))=_;rw[if_neg (jdd l),un_sh]
 have ρ0:ρ' 0=ρ 0:=(ρs 0).trans e0
 have fil0:Sx.Fil (o β) 0:=by
  obtain⟨dl,hdl⟩:=hf;obtain⟨d',hd',_⟩:=hre β hβ 0 dl hdl;exact⟨d',hd'⟩
 have filS:∀ l,Sx.Fil (h β) l->Sx.Fil (o β) (sh2 l):=fun l ⟨dl,hdl⟩=>by
  obtain⟨d',hd',_⟩:=hre β hβ l dl hdl;exact⟨d',hd'⟩
 have old:∀ (k:Nat) (d':Chunk),(o β)[k]?=some (some d')->k≠1->∃ (l:Nat) (dl:Chunk),k=sh2 l/\(h β)[l]?=some (some dl)/\d'.n=dl.n/\d'.x=dl.x/\∀ q,q<d'.n->Re1 ix (d'.f q) (dl.f q):=fun k d' hk hne=>by
  rcases hre' β hβ k d' hk with rfl|⟨l,rfl,dl,hdl⟩
  ·exact absurd rfl hne
  ·obtain⟨d2,hd2,r1,r2,r3⟩:=hre β hβ l dl hdl;rw[hk] at hd2;obtain rfl:d'=d2:=by simpa using hd2
   exact⟨l,dl,rfl,hdl,r1,r2,r3⟩
 refine⟨β,hβ,ρ',fun k hk=>?_,fun k hk=>?_,?_⟩
 ·obtain⟨e,he⟩:=hk;rcases two k e he with rfl|rfl
  ·exact ρ0
  ·exact ρ1
 ·obtain⟨e,he⟩:=hk;rcases two k e he with rfl|rfl
  ·exact fil0
  ·exact⟨_,h1 β⟩
 ·refine H.redo (T:=fun k b=>Tp (un k) b) E (fun k=>k=0) (fun k=>k≠1) (S 0) (fun b hb=>⟨0,_,rfl,g0,.inr hb⟩) (fun b hb=>(E.mine 0 _ b g0 hb).2.2) (fun k hk=>?_) (fun k e hk hA=>?_) (fun k e hk hA=>?_) (fun k e l f hk hA hl hB hne=>?_)
  ·rw[n0] at hk;have:k=0\/k=1:=by omega
   rcases this with rfl|rfl
   ·exact⟨fil0,ρ0⟩
   ·exact⟨⟨_,h1 β⟩,ρ1⟩
  ·obtain rfl:k=1:=Decidable.not_not.1 hA;rw[h1 β] at hk;obtain rfl:e2=e:=by simpa using hk
   exact⟨by decide,ρ1,g1,fun q hq=>by rw[hn2] at hq;exact absurd hq (xZ q)⟩
  ·obtain⟨l,dl,rfl,hdl,r1,r2,r3⟩:=old k e hk hA;have hu:=un_sh l;refine⟨by rw[ρs];exact K.blk l dl hdl,fun q hq=>?_,fun _ q hq=>by rw[ρs];exact K.own l dl hdl q Q8G,?_,fun b hb=>?_⟩
   ·obtain⟨x,hx,hxd⟩:=K.cell l dl hdl q Q8G;rw[ρs];refine⟨x,hx,fun r hr=>?_⟩;rw[(r3 q hq).den (r:=r) (r':=fun k=>r (sh2 k)) (fun a b hab=>by rw[hix a b hab])];exact hxd (fun k=>r (sh2 k)) fun k hk=>(hr _ (filS k hk)).trans (ρs k)
   ·rw[r2,ρs];have:(fun b=>Tp (un (sh2 l)) b)=Tp l:=by rw[hu]
    rw[this];exact K.inv l dl hdl
   ·rw[hu] at hb;obtain⟨q1,q2⟩:=K.foot l dl b hdl hb;exact⟨q1,by rw[r1,ρs];exact q2⟩
  ·obtain⟨a,da,rfl,hda,_⟩:=old k e hk hA;obtain⟨b,db,rfl,hdb,_⟩:=old l f hl hB;have hab:a≠b:=fun e=>hne (by rw[e])
   obtain⟨q1,q2⟩:=K.sep a da b db hda hdb hab;exact⟨fun _=>by rw[ρs,ρs];exact q1,fun x hx=>by rw[un_sh] at hx ⊢;rw[ρs];exact q2 x hx⟩
end Go.Proofs.YtfkngpmgcimdbaaGreat.Sx


namespace Go.Proofs.YtfkngpmgcimdbaaGreat
open Go Go.RowKit Sx
theorem g1z {p:Nat->Prop} (h:p 0):∀ j,j<1->p j:=fun j hj=>by
 obtain rfl:j=0:=by omega
 exact h
def qj8 (s:Sl) (p q:Nat):Sl:=⟨s.b,s.o+(if s.c=p then 0 else p),q-p,s.c-p,none⟩
structure OldB (W:World) (s:Sl) (bs:List Int):Prop where
 sp:s.sp=none
 n:bs.length=s.n
 c:s.n<=s.c
 u8:∀ j,j<bs.length->0<=bs.getD j 0/\bs.getD j 0<256
 cell:∀ j,j<bs.length->W.cell? ⟨s.b,s.o+j,none⟩=some (.int .u8 (bs.getD j 0))
variable {W:World} {s:Sl} {bs:List Int}
theorem OldB.part (h:OldB W s bs) {p q:Nat} (hpq:p<=q) (hq:q<=bs.length):OldB W (qj8 s p q) ((bs.take q).drop p):=by
 have hl:((bs.take q).drop p).length=q-p:=by rw[List.length_drop,List.length_take,Nat.min_eq_left hq]
 have hg:∀ j,j<q-p->((bs.take q).drop p).getD j 0=bs.getD (p+j) 0:=fun j hj=>by
  rw[xD,xD,List.getElem?_drop,yK,if_pos Q8G]
 have hn:=h.n;have hc:=h.c;refine⟨rfl,hl,by show q-p<=s.c-p;omega,fun j hj=>?_,fun j hj=>?_⟩
 ·rw[hl] at hj;rw[hg j hj];exact h.u8 _ Q8G
 ·rw[hl] at hj;rw[hg j hj];have hne:s.c≠p:=by omega
  show W.cell? ⟨s.b,s.o+(if s.c=p then 0 else p)+j,none⟩=_;rw[if_neg hne,show s.o+p+j=s.o+(p+j) from by omega];exact h.cell _ Q8G
variable {o:Oper} {st:St} {x:Operand} {R:List Rw}
theorem qrl [ZW] {t:TypeId} {b f i:Nat} (hz:ZW.z=some W) {v:Value} (ho:o.op=.load t x) (hx:EvTo x st (.pointer (some ⟨b,f,none⟩))) (hi:st.h[i]?=some (some (rvC R)))
  (ht:jd2 tys t fun _ d=>qd7 d=false) (hp:qbd v=true) (hk:W.cell? ⟨b,f,none⟩=some v):OKs prog o st v [] [i]:=fun st₂ hs hh _=>
 qa0 fun X ρ a w Rl=>by
  have hi2:st₂.h[i]?=some (some (rvC R)):=(hh i Q8R).trans hi;have hx':=qsz (hs x Q8P _ hx) rfl Rl;obtain⟨ti,d,_,h2,hd⟩:=qao tysOK ht;obtain⟨S,E⟩:=Rl.heap.ext;have V:RvOK R (ρ i) (S i) w:=E.inv i _ hi2;have hy:w.cell? ⟨b,f,none⟩=some v:=by rw[<-hk];exact qfr ((V.base W hz).2.2 b (qou hk)).2
  exact Q45
variable {c:Nat}
theorem qd4 {lo hi:Option Operand} {vl vh:Option Value} {b f l p q:Nat} (f2:Nat) (ho:o.op=.slice 37 x lo hi none) (hx:EvTo x st (uV (some ⟨b,f,l,c,none⟩))) (hl:OptTo st lo vl) (hh:OptTo st hi vh)
  (hq:Bnd vh l c q) (hp:Bnd vl 0 q p) (hf:f2=f+(if c=p then 0 else p)):OKs prog o st (uV (some ⟨b,f2,q-p,c-p,none⟩)) [] []:=by
 obtain⟨ei,z,h1,h2,h3,h4,h5⟩:=q00
 have:=q0w (P:=prog) ho hx hl hh underlying37 h1 hq hp
 rw[h2,yo] at this
 rw[hf]
 exact this
abbrev rdC (s:Sl):Chunk:=⟨true,1,[(0,1,uV (some s))]⟩
def jhs (n c:Int):Int:=IntKind.i64.wrap (((BitVec.ofInt IntKind.i64.bits (IntKind.i64.wrap (n*2^8))) ||| BitVec.ofInt IntKind.i64.bits c).toNat:Nat)
def takeN (l:List Int):Int:=l.foldl jhs 0
theorem qwx (bs:List Int) (k:Nat) (h:k<bs.length):takeN (bs.take (k+1))=jhs (takeN (bs.take k)) (bs.getD k 0):=by
 unfold takeN;exact Q3I
variable {ix:List (Nat×Nat)}
theorem jo1:ChunkReLe ix (rdC s) (rdC s):=⟨id,nlr _,g1z .quo⟩
variable {ps:Pz}
theorem je7 [ZW] (W:World) (hz:ZW.z=some W) (R:List Rw) (s:Sl) (bs:List Int) (hs:OldB W s bs) (w:Nat) (hw:w<=bs.length) (hl:bs.length<=1000) (i k:Nat) (hik:i≠k) (h:Hp) (hi:h[i]?=some (some (rvC R))) (hk:h[k]?=some (some (⟨true,1,ps⟩:Chunk))) (hf:(⟨true,1,ps⟩:Chunk).f 0=uV (some s)) :
  qaf prog 77 [xd k,xc (w:Nat)] h (xc (takeN (bs.take w))) [(i,rvC R),(k,rdC (qj8 s w s.n))] []:=by
 obtain⟨sb,so,sn,sc,sp⟩:=s
 obtain⟨hsp,hn,hc,hu,hcl⟩:=hs
 simp only at hsp hn hc hcl
 subst hsp hn
 refine qaq (G:=tys) (fun _:Unit=>True) (fun _=>_) [⟨i,rvC R,rvC R,rvC R⟩,⟨k,_,rdC ⟨sb,so,bs.length,sc,none⟩,rdC (qj8 ⟨sb,so,bs.length,sc,none⟩ w bs.length)⟩] [] [xd 1,xc (w:Nat)] tysOK mixed func77 Q8I (call77) ⟨hi,hk,xb⟩ Q8y (by simp[Apart,hik]) ⟨.inr ⟨rfl,rfl⟩,.inl rfl,xb⟩ xb Q6E Opens.same ?_
 rintro⟨⟩ -
 repeat' (refine Bb ?_;first|refine Q55 ?_|refine Bv (qd4 (p:=0) (q:=w) so rfl rfl rfl ⟨_,_,rfl,rfl⟩ ⟨rfl,by show w<=sc;omega⟩ rfl (by split<;>simp)) ?_|refine Q5P ?_|fail)
 refine Bb ?_
 refine Bw (α:=Nat) (fun j=>j<=w) (fun j=>w-j) (fun j=>[(5,xc (takeN (bs.take j))),(15,xc (j:Int))]) (fun j=>[]) 0 [(0,0),(1,1)] (xm _) ?_ ?_
 ·exact Q1N
 intro j hj
 have hj:j<=w:=hj
 by_cases hlt:j<w
 ·have st:=qwx bs j Q8G;generalize takeN (bs.take j)=n0 at st ⊢;have ek:((j+1:Nat):Int)=IntKind.i64.wrap ((j:Int)+1):=by rw[jdx _ Q8G Q8G];rfl
  have eS:jhs n0 (bs.getD j 0)=IntKind.i64.wrap (((BitVec.ofInt IntKind.i64.bits (IntKind.i64.wrap (n0*2^sh 8 IntKind.i64))) ||| BitVec.ofInt IntKind.i64.bits (IntKind.i64.wrap (bs.getD j 0))).toNat:Nat):=by
   have eb:IntKind.i64.wrap (bs.getD j 0)=bs.getD j 0:=by have:=hu j Q8G;exact jdx _ Q8G Q8G
   rw[eb];rfl
  have eb:IntKind.i64.wrap (bs.getD j 0)=bs.getD j 0:=by have:=hu j Q8G;exact jdx _ Q8G Q8G
  repeat' (refine Bb ?_;first|refine Q55 ?_|refine Bf (xi (show((j:Nat):Int)<((w-0:Nat):Int) from by omega)) ?_|refine Bv (ql0 (sz:=1) (g:=so+j) tysOK rfl rfl Q8r rfl Q9n Q8G (by show((j:Nat):Int)<((w-0:Nat):Int);omega) (by rw[y5,yo])) ?_|refine Bv (qrl (i:=0) (R:=R) (v:=.int .u8 (bs.getD j 0)) hz rfl rfl Q8I Q9n rfl (hcl j Q8G)) ?_|fail)
  refine Bb ?_;refine Br (α:=Nat) (j+1) [(0,0),(1,1)] ⟨by show j+1<=w;omega,by show w-(j+1)<w-j;omega⟩ ?_;rw[st];exact Q1N
 ·obtain rfl:j=w:=by omega
  repeat' (refine Bb ?_;first|refine Q55 ?_|refine Be (xf (show ¬ ((j:Nat):Int)<((j-0:Nat):Int) from by omega)) ?_|refine Bv (qd4 (p:=j) (q:=bs.length) (so+(if sc=j then 0 else j)) rfl rfl ⟨_,_,rfl,rfl⟩ rfl rfl ⟨rfl,by omega⟩ rfl) ?_|fail)
  refine Bb ?_;refine Bq ?_;repeat' (refine Bb ?_;first|refine Q55 ?_|refine Q5r ?_|refine Ba ⟨Q84,⟨_,rfl,fun h=>h,nlr _,g1z .quo⟩,xb⟩ ?_|refine Ba xb ?_|refine Ba ⟨⟨.inr ⟨_,rfl,rfl⟩,.inl rfl,xb⟩,xb⟩ ?_|exact Bg|fail)
theorem qvf [ZW] (W:World) (hz:ZW.z=some W) (R:List Rw) (s:Sl) (bs:List Int) (hs:OldB W s bs) (hw:4<=bs.length) (hl:bs.length<=1000) (i k:Nat) (hik:i≠k) (h:Hp) (hi:h[i]?=some (some (rvC R))) (hk:h[k]?=some (some (⟨true,1,ps⟩:Chunk))) (hf:(⟨true,1,ps⟩:Chunk).f 0=uV (some s)) :
  qaf prog 78 [xd k] h (xc (IntKind.i64.wrap (IntKind.i32.wrap (takeN (bs.take 4))))) [(i,rvC R),(k,rdC (qj8 s 4 s.n))] []:=by
 refine qaq (G:=tys) (fun _:Unit=>True) (fun _=>_) [⟨i,rvC R,rvC R,rvC R⟩,⟨k,_,rdC s,rdC (qj8 s 4 s.n)⟩] [] [xd 1] tysOK mixed func78 Q8I (call78) ⟨hi,hk,xb⟩ Q8y (by simp[Apart,hik]) ⟨.inr ⟨rfl,rfl⟩,.inl rfl,xb⟩ xb ⟨.ptr rfl,xb⟩ Opens.same ?_
 rintro⟨⟩ -
 repeat' (refine Bb ?_;first|refine Q55 ?_|refine Bc (je7 W hz R s bs hs 4 hw hl 0 1 Q8H _ Q8I Q8I rfl) ?_|fail)
 refine Bb ?_
 refine Bq ?_
 repeat' (refine Bb ?_;first|refine Q55 ?_|refine Q5r ?_|refine Ba ⟨Q84,⟨_,rfl,fun h=>h,nlr _,g1z .quo⟩,xb⟩ ?_|refine Ba xb ?_|refine Ba ⟨⟨.inr ⟨_,rfl,rfl⟩,.inl rfl,xb⟩,xb⟩ ?_|exact Bg|fail)
theorem jde [ZW] (W:World) (hz:ZW.z=some W) (rt:Rw) (R:List Rw) (s:Sl) (bs:List Int) (hs:OldB W s bs) (hT:TabOK (some rt) (jg0 256)) (hl:bs.length<=1000) (ht:rt∈R) (i:Nat) (h:Hp) (hi:h[i]?=some (some (rvC R))) :
  qaf prog 94 [uV (some rt.sl),uV (some s)] h (.int .u32 (jgx bs)) [(i,rvC R)] []:=by
 obtain⟨sb,so,sn,sc,sp⟩:=s
 obtain⟨hsp,hn,hc,hu,hcl⟩:=hs
 simp only at hsp hn hc hcl
 subst hsp hn
 refine qaq (G:=tys) (fun _:Unit=>True) (fun _=>_) [⟨i,rvC R,rvC R,rvC R⟩] [] [uV (some rt.sl),uV (some ⟨sb,so,bs.length,sc,none⟩)] tysOK mixed func94 Q8I (call94) ⟨hi,xb⟩ Q6L Q8N Q6A xb ⟨.quo,.quo,xb⟩ Opens.same ?_
 rintro⟨⟩ -
 have htn:rt.n=256:=by have:=hT.n;rw[qkj] at this;exact this
 have hTx:rt.xs=(jg0 256).map (Value.int .u32):=hT.xs
 have hlt:((uN (some rt.sl):Nat):Int)=256:=by show((rt.n:Nat):Int)=_;rw[htn];rfl
 repeat' (refine Bb ?_;first|refine Q55 ?_|refine Q5P ?_|fail)
 refine Bb ?_
 refine Bw (α:=Nat) (fun k=>k<=bs.length) (fun k=>bs.length-k) (fun k=>[(5,.int .u32 (sumK bs k)),(11,xc (k:Int))]) (fun k=>[]) 0 [(0,0)] (xm _) ?_ ?_
 ·exact Q0H
 intro k hk
 have hk:k<=bs.length:=hk
 by_cases hkl:k<bs.length
 ·have hgc:bs[k]?=some (bs.getD k 0):=by rw[xD,xr hkl];rfl
  have hs:=qrj hgc;generalize sumK bs k=s0 at hs;obtain⟨x0,x1⟩:=q02 (IntKind.u8.wrap s0) (bs.getD k 0);have es:sumK bs (k+1)=jfz (jg7 s0 8) (jjq (jf4 (IntKind.u8.wrap s0) (bs.getD k 0)).toNat):=hs;have ex:IntKind.i64.wrap (jf4 (IntKind.u8.wrap s0) (bs.getD k 0))=(jf4 (IntKind.u8.wrap s0) (bs.getD k 0)):=jdx _ Q8G Q8G;have hxe:(jg0 256)[(jf4 (IntKind.u8.wrap s0) (bs.getD k 0)).toNat]?=some (jjq (jf4 (IntKind.u8.wrap s0) (bs.getD k 0)).toNat):=Q4X;have ek:((k+1:Nat):Int)=IntKind.i64.wrap ((k:Int)+1):=by rw[jdx _ Q8G Q8G];rfl
  repeat' (refine Bb ?_;first|refine Q55 ?_|refine Bf (xi (show((k:Nat):Int)<((bs.length:Nat):Int) from by omega)) ?_|refine Q6k ?_|refine Bv (ql0 (sz:=1) (g:=so+k) tysOK rfl rfl Q8r rfl Q9n Q8G (by show((k:Nat):Int)<((bs.length:Nat):Int);omega) (by rw[y5,yo])) ?_|refine Bv (qrl (i:=0) (R:=R) (v:=.int .u8 (bs.getD k 0)) hz rfl rfl Q8I Q9n rfl (hcl k Q8G)) ?_|refine Bv (ql0 (sz:=1) (g:=rt.o+(jf4 (IntKind.u8.wrap s0) (bs.getD k 0)).toNat) tysOK rfl rfl Q8r rfl Q9n (by rw[ex];omega) (by rw[ex];show(jf4 (IntKind.u8.wrap s0) (bs.getD k 0))<((rt.n:Nat):Int);omega) (by rw[ex,yo])) ?_|refine Bv (qov (i:=0) rt (v:=.int .u32 (jjq (jf4 (IntKind.u8.wrap s0) (bs.getD k 0)).toNat)) (jf4 (IntKind.u8.wrap s0) (bs.getD k 0)).toNat tysOK rfl rfl rfl Q8I ht Q9n rfl (by rw[hTx,xT,hxe];rfl)) ?_|fail)
  exact Q3W
 ·obtain rfl:k=bs.length:=by omega
  repeat' (refine Bb ?_;first|refine Q55 ?_|refine Be (xf (show ¬ ((bs.length:Nat):Int)<((bs.length:Nat):Int) from by omega)) ?_|refine N.notU ?_|refine Bq ?_|refine Q5r ?_|refine Ba Q6Z ?_|refine Q5a ?_|exact Bg|fail)
theorem jo2 [ZW] (W:World) (hz:ZW.z=some W) (R:List Rw) (s:Sl) (bs:List Int) (hs:OldB W s bs) (hl:bs.length<=1000) (i:Nat) (h:Hp) (hi:h[i]?=some (some (rvC R))) :
  CallAll prog 61 [uV (some s)] h (fun v ms=>v=.int .u32 (jgx bs)/\ms=[(i,rvC R)]):=by
 have hil:=(xe.1 hi).1
 have key:=qaw (G:=tys) (h:=h) (vs:=[uV (some s)]) (fun _:Unit=>True) (fun _=>_) (α:=Rw) (fun κ=>True) (fun κ=>.int .u32 (jgx bs)) [⟨i,rvC R,rvC R,rvC R⟩] (fun κ=>[rvC (κ::R)]) (fun κ=>[]) [uV (some s)] tysOK mixed func61 Q8I (call61) ⟨hi,xb⟩ Q6L (fun κ _=>Q6L) Q8N Q6A (fun κ _=>trivial) ⟨.quo,xb⟩ Opens.same ?_
 ·exact Q2t
 rintro⟨⟩ -
 repeat' (refine Bb ?_;first|refine Q55 ?_|fail)
 refine Bb ?_
 refine Bl (q6r R 0 _ Q8I) fun v ms hR=>?_
 obtain⟨rt,hT,rfl,rfl⟩:=hR
 repeat' (refine Bb ?_;first|refine Q55 ?_|refine Bc (jde W hz rt (rt::R) s bs hs hT hl (yJ ..) 0 _ Q8I) ?_|refine Bq ?_|refine Bo rt ⟨xb,?_⟩|refine Q5r ?_|refine Ba Q6Z ?_|refine Q5a ?_|exact Bg|fail)
variable {P:Program} {g:FuncId} {vs:List Value}
theorem qwy {h:Hp} {v:Value} {ms:Mz} (hc:∀ h₂:Hp,(∀ m∈ms,h₂[m.1]?=h[m.1]?)->CallAll P g vs h₂ fun v' ms'=>v'=v/\ms'=ms):qaf P g vs h v ms []:=fun h₂ _ hm X ρ w xs H hx=>by
 rcases hc h₂ hm X ρ w xs H hx with ⟨x,w',h1,v',ms',ρ',⟨rfl,rfl⟩,h2⟩|⟨h1,h2⟩
 ·exact .inl ⟨x,w',h1,ρ',h2⟩
 ·refine .inr ⟨h1,h2.mono ?_⟩;rintro e w' ⟨x,he,v',ms',ρ',⟨rfl,rfl⟩,h3⟩;exact⟨x,he,ρ',h3⟩
theorem jo3 [ZW] (W:World) (hz:ZW.z=some W) (R:List Rw) (s:Sl) (bs:List Int) (hs:OldB W s bs) (hl:bs.length<=1000) (i:Nat) (h:Hp) (hi:h[i]?=some (some (rvC R))) :
  qaf prog 61 [uV (some s)] h (.int .u32 (jgx bs)) [(i,rvC R)] []:=
 qwy fun h₂ hm=>jo2 W hz R s bs hs hl i h₂ ((hm _ (yW.2 rfl)).trans hi)
theorem OldB.dropw (h:OldB W s bs) (p:Nat) (hp:p<=bs.length):OldB W (qj8 s p s.n) (bs.drop p):=by
 have:=h.part (p:=p) (q:=bs.length) hp (nlr _);rw[List.take_length,h.n] at this;exact this
theorem OldB.takew (h:OldB W s bs) (q:Nat) (hq:q<=bs.length):OldB W (qj8 s 0 q) (bs.take q):=by
 have:=h.part (p:=0) (q:=q) (xm _) hq;exact this
theorem q09 [ZW] {t d:TypeId} {i:Nat} (hz:ZW.z=some W) (ho:o.op=.convert t d x) (hx:EvTo x st (uV (some s))) (hi:st.h[i]?=some (some (rvC R)))
  (ht:jd2 tys t fun _ sd=>match sd with|.slice e=>jd2 tys e fun _ ed=>ed=.int .u8|_=>False) (hd:jd2 tys d fun _ dd=>dd=.string) (hs:OldB W s bs):OKs prog o st (.string (strOfNums bs)) [] [i]:=fun st₂ hs2 hh _=>
 qa0 fun X ρ a w Rl=>by
  have hi2:st₂.h[i]?=some (some (rvC R)):=(hh i Q8R).trans hi;have hx':a.eval x=uR (some s):=by rw[<-((hs2 x Q8P _ hx).den Rl).self,qd3]
  obtain⟨_,sd,_,h1,ht⟩:=qao tysOK ht;obtain⟨_,dd,_,h2,rfl⟩:=qao tysOK hd;obtain⟨S,E⟩:=Rl.heap.ext;have V:RvOK R (ρ i) (S i) w:=E.inv i _ hi2;obtain⟨qb,qo,qn,qc,sp⟩:=s;obtain⟨hsp,hn,hc,hu,hcl⟩:=hs;simp only at hsp hn hc hcl;subst hsp;have hcells:∀ j,j<bs.length->w.cell? ⟨qb,qo+j,none⟩=some (.int .u8 (bs.getD j 0)):=fun j hj=>by
   have h:=hcl j hj;rw[<-h];exact qfr ((V.base W hz).2.2 qb (qou h)).2
  split at ht
  ·obtain⟨_,ed,_,h3,rfl⟩:=qao tysOK ht;refine⟨_,?_,Den.plain rfl⟩;simp only[execOp,ho,hx',Sem.run_bind,Sem.run_pure,Result.andThen_ok];rw[show uR (some ⟨qb,qo,qn,qc,none⟩)=.slice (some ⟨qb,qo,none⟩) qn qc from rfl,run_convert_bytes_arg w t _ h1 h3 qb qo qn qc bs hn (fun j hj=>hcells j Q8G) d h2];rfl
  ·exact ht.elim
def jkt (bs:List Int):Frm:=⟨takeN ((bs.drop 4).take 1),takeN ((bs.drop 5).take 1),takeN ((bs.drop 8).take 2),takeN ((bs.drop 10).take 2),takeN ((bs.drop 12).take 8),takeN ((bs.drop 6).take 1),takeN ((bs.drop 20).take 8),takeN ((bs.drop 28).take 8),takeN ((bs.drop 7).take 1),takeN ((bs.drop 36).take 8),IntKind.i64.wrap (IntKind.i32.wrap (takeN ((bs.drop 44).take 4))),IntKind.i64.wrap (IntKind.i32.wrap (takeN ((bs.drop 48).take 4))),takeN ((bs.drop 52).take 8),takeN ((bs.drop 60).take 8),takeN ((bs.drop 68).take 8)⟩
def jpy:ByteArray:=⟨#[97,108,105,49]⟩
def decF (bs:List Int):Frm×Int:=
 if bs.length<80 then (Frm.oo,4) else if 80<bs.length then (Frm.oo,5) else if strOfNums (bs.take 4)≠jpy then (Frm.oo,5)
 else if takeN ((bs.drop 76).take 4)≠IntKind.i64.wrap (jgx (bs.take 76)) then (Frm.oo,6) else if (jkt bs).may then (jkt bs,0) else (Frm.oo,5)
abbrev decV (r:Frm×Int):Value:=.tuple #[fmV r.1,xc r.2]
theorem OldB.nx {p w:Nat} (h:OldB W s (bs.drop p)) (hw:p+w<=bs.length):OldB W (qj8 s w s.n) (bs.drop (p+w)):=by
 have:=h.dropw w Q8Q;rw[yi] at this;exact this
theorem dcN {p:Prop} [Decidable p] (h:¬ p):(!decide p)=true:=by rw[xf h];rfl
theorem dcY {p:Prop} [Decidable p] (h:p):(!decide p)=false:=by rw[xi h];rfl
theorem q6u (x y:Operand) (a b:ByteArray):BinIs prog .neq 9 x y (.string a) (.string b) (.bool (!decide (a=b))):=⟨rfl,rfl,rfl,fun w=>by
 by_cases h:a=b
 ·subst h;rw[xi rfl];go_simp
 ·rw[xf h];go_simp;rw[ByteArray.toList_eq,ByteArray.toList_eq];exact fun e=>h (ByteArray.ext (xH.1 e))⟩
theorem q97 [ZW] (W:World) (hz:ZW.z=some W) (R:List Rw) (s:Sl) (bs:List Int) (hs:OldB W s bs) (i:Nat) (h:Hp) (hi:h[i]?=some (some (rvC R))) :
  CallAll prog 46 [uV (some s)] h (fun v ms=>v=decV (decF bs)/\ms=[(i,rvC R)]):=by
 obtain⟨sb,so,sn,sc,sp⟩:=s
 obtain rfl:sp=none:=hs.sp
 have hn:bs.length=sn:=hs.n
 have hc:sn<=sc:=hs.c
 have key:=qaw (G:=tys) (h:=h) (vs:=[uV (some ⟨sb,so,sn,sc,none⟩)]) (fun _:Unit=>True) (fun _=>_) (α:=Unit) (fun _=>True) (fun _=>decV (decF bs)) [⟨i,rvC R,rvC R,rvC R⟩] (fun _=>[rvC R]) (fun _=>[]) [uV (some ⟨sb,so,sn,sc,none⟩)] tysOK mixed func46 Q8I (call46) ⟨hi,xb⟩ Q6L (fun κ _=>Q6L) Q8N Q6A (fun κ _=>trivial) ⟨.quo,xb⟩ Opens.same ?_
 ·refine qat key fun v ms hR=>?_
  obtain⟨_,_,rfl,rfl⟩:=hR;exact⟨rfl,rfl⟩
 rintro⟨⟩ -
 by_cases h1:bs.length<80
 ·rw[show decF bs=(Frm.oo,4) from if_pos h1];exact Q1b
 by_cases h2:80<bs.length
 ·rw[show decF bs=(Frm.oo,5) from by unfold decF;rw[if_neg h1,if_pos h2]];exact Q1b
 have h80:sn=80:=by omega
 by_cases he:strOfNums (bs.take 4)=jpy
 rotate_left
 ·rw[show decF bs=(Frm.oo,5) from by unfold decF;rw[if_neg h1,if_neg h2,if_pos he]];repeat' (refine Bb ?_;first|refine Q55 ?_|refine Q5z ?_|refine Bf (dcN he) ?_|refine Q6l ?_|refine Q5r ?_|refine Ba Q6Z ?_|refine Q5a ?_|exact Bg|fail)
 repeat' (refine Bb ?_;first|refine Q55 ?_|refine Q5z ?_|refine Be (dcY he) ?_|refine Bv (qd4 (p:=76) (q:=sn) (so+(if sc=76 then 0 else 76)) rfl rfl ⟨_,_,rfl,⟨rfl,rfl⟩⟩ rfl rfl ⟨rfl,by omega⟩ rfl) ?_|refine Bc (je7 W hz R _ (bs.drop 76) (hs.dropw 76 Q8G) 4 Q8Q Q8Q 0 _ Q8H _ Q8I Q8I Q8I) ?_|refine Bv (qd4 (p:=0) (q:=76) (so+(if sc=0 then 0 else 0)) rfl rfl rfl ⟨_,_,rfl,⟨rfl,rfl⟩⟩ ⟨rfl,by omega⟩ rfl rfl) ?_|refine Bc (jo3 W hz R _ (bs.take 76) (hs.takew 76 Q8G) (by rw[List.length_take];omega) 0 _ Q8I) ?_|fail)
 by_cases hsum:takeN ((bs.drop 76).take 4)=IntKind.i64.wrap (jgx (bs.take 76))
 rotate_left
 ·rw[show decF bs=(Frm.oo,6) from by unfold decF;rw[if_neg h1,if_neg h2,if_neg (fun h=>h he),if_pos hsum]];repeat' (refine Bb ?_;first|refine Q55 ?_|refine Bf (bne_iff_ne.2 hsum) ?_|refine Q6l ?_|refine Q5r ?_|refine Ba Q6Z ?_|refine Q5a ?_|exact Bg|fail)
 have O0:=hs.dropw 4 Q8G
 have O1:=O0.nx (w:=1) Q8G
 have O2:=O1.nx (w:=1) Q8G
 have O3:=O2.nx (w:=1) Q8G
 have O4:=O3.nx (w:=1) Q8G
 have O5:=O4.nx (w:=2) Q8G
 have O6:=O5.nx (w:=2) Q8G
 have O7:=O6.nx (w:=8) Q8G
 have O8:=O7.nx (w:=8) Q8G
 have O9:=O8.nx (w:=8) Q8G
 have O10:=O9.nx (w:=8) Q8G
 have O11:=O10.nx (w:=4) Q8G
 have O12:=O11.nx (w:=4) Q8G
 have O13:=O12.nx (w:=8) Q8G
 have O14:=O13.nx (w:=8) Q8G
 by_cases hm:(jkt bs).may
 ·rw[show decF bs=(jkt bs,0) from by unfold decF;rw[if_neg h1,if_neg h2,if_neg (fun h=>h he),if_neg (fun h=>h hsum),if_pos hm]];exact Q10
 ·rw[show decF bs=(Frm.oo,5) from by unfold decF;rw[if_neg h1,if_neg h2,if_neg (fun h=>h he),if_neg (fun h=>h hsum),if_neg hm]];exact Q10
open Go Go.RowKit Sx
theorem q1a [ZW] {xs:List Value} {V:Value} (W:World) (hz:ZW.z=some W) (hW:0<W.heap.size) (hr:∀ w,(callFunc g ⟨xs⟩).run P w=.ok (.enter g ⟨xs⟩) w) (hV:qan V=true) (hx:∀ (F:Nat->Prop) ρ,All2 (Den F ρ) vs xs) (hc:CallAll P g vs [some (rvC [])] fun v ms=>v=V/\ms=[(0,rvC [])]):Calls P g ⟨xs⟩ W fun e w'=>e=.returned V/\Below W.heap.size W w':=by
 let X:Ctx:=⟨W,fun a=>a.block<W.heap.size,1,fun _=>(0,0)⟩;have one:∀ (k:Nat) (d:Chunk),[some (rvC [])][k]?=some (some d)->k=0/\d=rvC []:=fun k d hk=>Q4B
 have H:HOK X (fun _=>(0,0)) [some (rvC [])] W:=Q19;rcases hc X _ W xs H (hx _ _) with ⟨x,w',h1,_⟩|⟨_,h2⟩
 ·rw[hr] at h1;cases h1
 ·refine h2.mono ?_;rintro e w' ⟨x,rfl,v,ms,ρ',⟨rfl,rfl⟩,ha,H',hd⟩;obtain⟨S,E⟩:=H'.ext;have M:RvOK [] (ρ' 0) (S 0) w':=E.inv 0 _ rfl;exact⟨by rw[<-hd.self,qa8 hV],H'.evo.os,H'.evo.tape,H'.evo.output,H'.evo.size,fun b hb=>((M.base W hz).2.2 b hb).2⟩
theorem q45 (u:Option Sl) (hu:uN u<80) (h:Hp):qaf prog 46 [uV u] h (decV (Frm.oo,4)) [] []:=by
 refine qal (G:=tys) [] [] [uV u] tysOK mixed func46 Q8I (call46) xb xb xb xb ⟨.quo,xb⟩ ?_;repeat' (refine Bb ?_;first|refine Q55 ?_|refine Q5P ?_|refine Bf (xi (show((uN u:Nat):Int)<80 from by omega)) ?_|refine Q5r ?_|refine Ba xb ?_|exact Bg|fail)
theorem qhk (W:World) (F:List By) (u:Option Sl) (bs:List Int) (hs:Src W F u bs) (hu:∀ j,j<bs.length->0<=bs.getD j 0/\bs.getD j 0<256) (hc:∀ s,u=some s->s.n<=s.c) (i:Nat) (h:Hp) (hi:h[i]?=some (some (memC W F))) :
  qaf prog 46 [uV u] h (decV (decF bs)) [] [i]:=fun h₂ hrh hms X ρ w xs H hx=>by
 obtain⟨S,E⟩:=H.ext
 have hi2:h₂[i]?=some (some (memC W F)):=(hrh i Q6X).trans hi
 have M:MemOK W F (ρ i) (S i) w:=E.inv i _ hi2
 have hb:=M.src hs
 by_cases h80:bs.length<80
 ·rw[show decF bs=(Frm.oo,4) from if_pos h80];exact q45 u (by rw[<-hb.1];exact h80) h h₂ (fun q hq=>by cases hq) hms X ρ w xs H hx
 cases u with
 | none=>exact absurd hb.1 (by show ¬ bs.length=0;omega)
 | some s=>
  have hn:bs.length=s.n:=hb.1;have hsp:s.sp=none:=by
   rcases(hb.2 s rfl).1 with h1|h1
   ·exact h1
   ·omega
  have hlt:0<w.heap.size:=by
   have:=qou ((hb.2 s rfl).2 0 Q8G);omega
  letI:ZW:=⟨some w⟩
  have O:OldB w s bs:=⟨hsp,hn,hc s rfl,hu,(hb.2 s rfl).2⟩;obtain rfl:xs=[uR (some s)]:=by
   cases xs with
   | nil=>exact hx.elim
   | cons x r=>
    cases r with
    | cons _ _=>exact hx.2.elim
    | nil=>rw[<-hx.1.self,qd3]
  refine .inr ⟨call46 _ w,(q1a w rfl hlt (fun w=>call46 _ w) (V:=decV (decF bs)) rfl (vs:=[uV (some s)]) (xs:=[uR (some s)]) (fun F ρ=>⟨fun r _=>qd3 _ r,xb⟩) (q97 w rfl [] s bs O 0 _ rfl)).mono ?_⟩;rintro e w' ⟨rfl,hB⟩;exact⟨decV (decF bs),rfl,ρ,AgreeOn.refl _ _,H.frame hB,fun r _=>qa8 rfl r⟩
def qdj (st now stale skew:Int):Int:=if qbc st/\qbc now/\qbc stale/\qbc skew then (if st+stale<now then 9 else if now+2*skew<st then 9 else 0) else 1
theorem q46 (t:Int) (W:World):xa 79 #[xc t] W (.bool (decide (qbc t))):=by
 by_cases h0:0<=t
 ·by_cases h1:t<=1000000
  ·rw[xi (show qbc t from⟨h0,h1⟩)];refine Q4i ?_;repeat' (refine Bb ?_;first|refine Q55 ?_|refine Q5l ?_|refine Q5p ?_|fail)
   all_goals (first|rfl|rw[xi h1])
  ·rw[xf (show ¬ qbc t from fun h=>h1 h.2)];refine Q4i ?_;repeat' (refine Bb ?_;first|refine Q55 ?_|refine Q5l ?_|refine Q5p ?_|fail)
   all_goals (first|rfl|rw[xf h1])
 ·rw[xf (show ¬ qbc t from fun h=>h0 h.1)];refine Q4i ?_;repeat' (refine Bb ?_;first|refine Q55 ?_|refine Q5l ?_|refine Q5p ?_|fail)
  all_goals rfl
theorem qh3 (t:Int) (h:Hp):qaf prog 79 [xc t] h (.bool (decide (qbc t))) [] []:=
 qai rfl rfl (call79 _) (q46 t)
theorem q1b (st now stale skew:Int) (W:World):xa 47 #[xc st,xc now,xc stale,xc skew] W (xc (qdj st now stale skew)):=by
 unfold qdj;by_cases h1:qbc st;rotate_left
 ·rw[if_neg (fun h=>h1 h.1)];exact Q0e
 by_cases h2:qbc now;rotate_left
 ·rw[if_neg (fun h=>h2 h.2.1)];exact Q0e
 by_cases h3:qbc stale;rotate_left
 ·rw[if_neg (fun h=>h3 h.2.2.1)];exact Q0e
 by_cases h4:qbc skew;rotate_left
 ·rw[if_neg (fun h=>h4 h.2.2.2)];exact Q0e
 rw[if_pos ⟨h1,h2,h3,h4⟩];have a1:=h1.1;have a2:=h1.2;have b1:=h2.1;have b2:=h2.2;have c1:=h3.1;have c2:=h3.2;have d1:=h4.1;have d2:=h4.2;have e1:IntKind.i64.wrap (st+stale)=st+stale:=jdx _ Q8G Q8G;have e3:IntKind.i64.wrap (now+IntKind.i64.wrap (2*skew))=now+2*skew:=by rw[jdx (2*skew) Q8G Q8G,jdx _ Q8G Q8G]
 by_cases g1:st+stale<now
 ·rw[if_pos g1];exact Q0e
 rw[if_neg g1];by_cases g2:now+2*skew<st
 ·rw[if_pos g2];exact Q0e
 rw[if_neg g2];exact Q0e
theorem qkk (st now stale skew:Int) (h:Hp):qaf prog 47 [xc st,xc now,xc stale,xc skew] h (xc (qdj st now stale skew)) [] []:=
 qai rfl rfl (call47 _) (q1b st now stale skew)
open Go Go.RowKit Sx
def NSt.fi (s:NSt):Fil:=⟨s.fm,s.fv,⟨s.fx,s.fy,s.fa,s.fb,s.fd⟩⟩
def NSt.hr (s:NSt) (r:HrS):NSt:=⟨s.C,s.id,s.boot,r.seq,s.told,s.asked,s.bad,r.F.most,r.F.valid,r.F.e.x,r.F.e.y,r.F.e.a,r.F.e.b,r.F.e.d,r.T,s.bn,r.l,s.te,s.tx,r.S⟩
def NSt.badder (s:NSt):NSt:={s with bad:=min (s.bad+1) 1000000}
def NSt.tab (s:NSt) (T:Tbl):NSt:={s with T:=T}
structure HeardS where
 s:NSt
 o:Option Ou
 e:Int
def NSt.tk (s:NSt) (T:Tbl) (f:Frm) (at_ now fine:Int):HrS:=jet (s.nd fun _=>(0,0)) s.bl s.fi T f.s.toNat f at_ now fine
def jd1 (s:NSt) (bs:List Int) (at_ now fine:Int):HeardS:=
 if ¬ (0<=now/\now<=1000000) then ⟨s,none,1⟩
 else if (decF bs).2≠0 then ⟨s.badder,none,(decF bs).2⟩
 else if (decF bs).1.s=s.id then ⟨s,none,9⟩
 else if qdj (decF bs).1.st now (s.C 6) (s.C 4)≠0 then ⟨s,none,qdj (decF bs).1.st now (s.C 6) (s.C 4)⟩
 else if (jd9 s.T (decF bs).1.s (decF bs).1.b (decF bs).1.q now).1≠0 then ⟨s.tab (jd9 s.T (decF bs).1.s (decF bs).1.b (decF bs).1.q now).2,none,(jd9 s.T (decF bs).1.s (decF bs).1.b (decF bs).1.q now).1⟩
 else ⟨s.hr (s.tk (jd9 s.T (decF bs).1.s (decF bs).1.b (decF bs).1.q now).2 (decF bs).1 at_ now fine),(s.tk (jd9 s.T (decF bs).1.s (decF bs).1.b (decF bs).1.q now).2 (decF bs).1 at_ now fine).o,0⟩
abbrev jjb (W:World) (B:List By) (s:NSt) (g:Rz):Hp:=[some (ndC (s.nd g) 2 3 4 5),some (memC W B),some (fiF s.fi),some (tblC s.T),some (twC s.bn s.bl),some (twC s.te s.tx)]
variable {B:List By}
theorem qex {i j:Nat} {c d c2 d2:Chunk} {s:NSt}:Opens [⟨i,c,ndP s,d⟩,⟨j,c2,memC W B,d2⟩] (fun _:Rz=>True) (jjb W B s):=by
 refine qs4 (jjb W B s) [(0,0),(1,2),(2,3),(3,4),(4,5)] (fun l i hm=>?_) rfl (fun β=>rfl) (fun β hβ l dl hl=>?_) (fun β hβ k d' hk=>?_)
 ·simp only[xg,Prod.mk.injEq,xI,or_false] at hm;rcases hm with ⟨rfl,rfl⟩|⟨rfl,rfl⟩|⟨rfl,rfl⟩|⟨rfl,rfl⟩|⟨rfl,rfl⟩<;>rfl
 ·match l,hl with
  | 0,hl=>
   obtain rfl:_=dl:=by simpa using hl
   exact⟨_,rfl,rfl,rfl,jgl (D:=s.nd β) (f:=2) (t:=3) (b:=4) (m:=5) (f':=1) (t':=2) (b':=3) (m':=4) Q8I Q8I Q8I Q8I⟩
  | 1,hl=>
   obtain rfl:_=dl:=by simpa using hl
   exact⟨_,rfl,rfl,rfl,re7⟩
  | 2,hl=>
   obtain rfl:_=dl:=by simpa using hl
   exact⟨_,rfl,rfl,rfl,nzj⟩
  | 3,hl=>
   exact Q51
  | 4,hl=>
   exact Q51
  | l+5,hl=>simp at hl
 ·match k,hk with
  | 0,_=>exact .inr ⟨0,rfl,_,rfl⟩
  | 1,_=>exact .inl rfl
  | 2,_=>exact .inr ⟨1,rfl,_,rfl⟩
  | 3,_=>exact .inr ⟨2,rfl,_,rfl⟩
  | 4,_=>exact .inr ⟨3,rfl,_,rfl⟩
  | 5,_=>exact .inr ⟨4,rfl,_,rfl⟩
  | k+6,hk=>simp at hk
theorem qey {i j:Nat} {c d c2 d2:Chunk} {T:NSt}:∀ l,(l=0\/l=2\/l=3\/l=4\/l=5)->l<[(⟨i,c,ndP T,d⟩:jdw),⟨j,c2,memC W B,d2⟩].length->∃ s,[(⟨i,c,ndP T,d⟩:jdw),⟨j,c2,memC W B,d2⟩][l]?=some s/\s.e.x≠Ext.none/\Selfish s.e.x:=fun l hl hl2=>by
 have h2:l<2:=hl2;obtain rfl:l=0:=by omega
 exact⟨_,rfl,q6i T,qa6⟩
theorem q1c (h:(decF bs).2=0):(decF bs).1.may:=by
 unfold decF at h ⊢;repeat' (split at h)
 all_goals first|exact absurd h Q8H|skip
 all_goals (repeat' split)<;>first|assumption|omega|simp_all
theorem jdf (D:NdS) (k:Int) (f t b m:Nat) {x:Ext} (hx:x=jd8 jem 64 D.g D.S):ChunkLe (ndC {D with bad:=k} f t b m) (@Chunk.mk x true 85 ((84,1,xc k)::(ndC D f t b m).ps)):=
 ⟨fun h=>h,nlr _,fun j hj=>by
  have hj:j<85:=hj;by_cases h:j<79
  ·have e1:∀ (a:Value) r,qa3 ((79,6,a)::r) j=qa3 r j:=fun a r=>by rw[qam,if_neg Q8G]
   have e2:∀ (a:Value) r,qa3 ((84,1,a)::r) j=qa3 r j:=fun a r=>by rw[qam,if_neg Q8G]
   exact Q4r
  ·obtain⟨i,rfl⟩:∃ i,j=79+i:=⟨j-79,by omega⟩;have h6:i<6:=by omega
   match i,h6 with
   | 0,_=>exact Eq.trans (b:=xd b) rfl rfl
   | 1,_=>exact Eq.trans (b:=xd m) rfl rfl
   | 2,_=>exact Eq.trans (b:=.int .i64 D.seq) rfl rfl
   | 3,_=>exact Eq.trans (b:=.int .i64 D.told) rfl rfl
   | 4,_=>exact Eq.trans (b:=.int .i64 D.asked) rfl rfl
   | 5,_=>exact Eq.trans (b:=.int .i64 k) rfl rfl,.inr hx.symm⟩
theorem q47 {D:NdS} {c:Chunk} {f t b m f' t' b' m':Nat} (h:ChunkLe (ndC D f t b m) c) (hf:ixK ix f'=some f) (ht:ixK ix t'=some t) (hb:ixK ix b'=some b) (hm:ixK ix m'=some m):∀ j,j<85->Re1 ix (c.f j) ((ndC D f' t' b' m').f j):=fun j hj=>by
 rw[<-h.2.2.1 j hj];exact jgl hf ht hb hm j hj
structure NdH (s:NSt):Prop where
 C2:0<=s.C 2/\s.C 2<=1000
 bl:0<=s.bl/\s.bl<1000
 seq:0<=s.seq/\s.seq<65535
 boot:0<=s.boot/\s.boot<=65535
 bad:0<=s.bad/\s.bad<=1000000
 F:s.fv=true->s.fi.e.may
 T:TOK s.T
theorem jqz (W:World) (B:List By) (s:NSt) (u:Option Sl) (bs:List Int) (hs:Src W B u bs) (hu:∀ j,j<bs.length->0<=bs.getD j 0/\bs.getD j 0<256) (hc:∀ s,u=some s->s.n<=s.c) (ok:NdH s) (at_ now fine:Int) (ht:¬ (0<=now/\now<=1000000)) (i j K:Nat) (hij:i≠j) (h:Hp) (hi:h[i]?=some (some (ndP s))) (hj:h[j]?=some (some (memC W B))) (hK:h[K]?=some none) :
  qaf prog 11 [xd i,uV u,xc at_,xc now,xc fine] h (.tuple #[.slice none 0 0,xc 1]) [(i,ndP (s)),(j,memC W B)] []:=by
 refine qaq (G:=tys) (fun _:Rz=>True) (jjb W B s) [⟨i,ndP s,ndP s,ndP (s)⟩,⟨j,memC W B,memC W B,memC W B⟩] [] [xd 0,uV u,xc at_,xc now,xc fine] tysOK mixed func11 Q8I (call11) ⟨hi,hj,xb⟩ ⟨Q6w,Q6w,xb⟩ Q9p Q7e xb Q72 qex ?_
 intro g _
 repeat' (refine Bb ?_;first|refine Q55 ?_|refine Q6t ?_|refine Bc (qf2 now _) ?_|refine Bf (by rw[xf ht];rfl) ?_|fail)
 refine Bb ?_
 refine qaz (s) g 0 2 3 4 5 [1] qey (fun i hi=>by have hi:i<2:=hi;simp only[xg,xI,or_false];omega) Q8I rfl rfl rfl Q7o Q8I rfl rfl re7 Q8I Q8I rfl rfl re2 Q8I rfl rfl re2 Q8I (fun k hk=>by simp at hk;omega) (fun k hk d hd l hl=>?_) (qbn rfl) ?_
 ·exact Q1F
 refine Ba (.plain rfl) ?_
 refine Ba Q6J ?_
 refine Ba xb ?_
 refine Ba Q73 ?_
 exact Bg
theorem jq0 (W:World) (B:List By) (s:NSt) (u:Option Sl) (bs:List Int) (hs:Src W B u bs) (hu:∀ j,j<bs.length->0<=bs.getD j 0/\bs.getD j 0<256) (hc:∀ s,u=some s->s.n<=s.c) (ok:NdH s) (at_ now fine:Int) (ht:0<=now/\now<=1000000) (hd:(decF bs).2≠0) (i j K:Nat) (hij:i≠j) (h:Hp) (hi:h[i]?=some (some (ndP s))) (hj:h[j]?=some (some (memC W B))) (hK:h[K]?=some none) :
  qaf prog 11 [xd i,uV u,xc at_,xc now,xc fine] h (.tuple #[.slice none 0 0,xc (decF bs).2]) [(i,ndP (s.badder)),(j,memC W B)] []:=by
 refine qaq (G:=tys) (fun _:Rz=>True) (jjb W B s) [⟨i,ndP s,ndP s,ndP (s.badder)⟩,⟨j,memC W B,memC W B,memC W B⟩] [] [xd 0,uV u,xc at_,xc now,xc fine] tysOK mixed func11 Q8I (call11) ⟨hi,hj,xb⟩ ⟨Q6w,Q6w,xb⟩ Q9p Q7e xb Q72 qex ?_
 intro g _
 have hw:min (IntKind.i64.wrap (s.bad+1)) 1000000=min (s.bad+1) 1000000:=by rw[jdx (s.bad+1) (by have:=ok.bad;omega) (by have:=ok.bad;omega)]
 repeat' (refine Bb ?_;first|refine Q55 ?_|refine Q65 ?_|refine Bf (nn hd) ?_|fail)
 refine Bb ?_
 refine B8 ?_
 rw[hw]
 repeat' (refine Bb ?_;first|refine Q55 ?_|refine Q6t ?_|fail)
 refine Bb ?_
 refine qaz (s.badder) g 0 2 3 4 5 [1] qey (fun i hi=>by have hi:i<2:=hi;simp only[xg,xI,or_false];omega) Q8I rfl rfl rfl (q47 (jdf (s.nd g) (min (s.bad+1) 1000000) 2 3 4 5 rfl) Q8I Q8I Q8I Q8I) Q8I rfl rfl re7 Q8I Q8I rfl rfl re2 Q8I rfl rfl re2 Q8I (fun k hk=>by simp at hk;omega) (fun k hk d hd l hl=>?_) (qbn rfl) ?_
 ·exact Q1F
 refine Ba (.plain rfl) ?_
 refine Ba Q6J ?_
 refine Ba xb ?_
 refine Ba Q73 ?_
 exact Bg
theorem jq1 (W:World) (B:List By) (s:NSt) (u:Option Sl) (bs:List Int) (hs:Src W B u bs) (hu:∀ j,j<bs.length->0<=bs.getD j 0/\bs.getD j 0<256) (hc:∀ s,u=some s->s.n<=s.c) (ok:NdH s) (at_ now fine:Int) (ht:0<=now/\now<=1000000) (hd:(decF bs).2=0) (ho:(decF bs).1.s=s.id) (i j K:Nat) (hij:i≠j) (h:Hp) (hi:h[i]?=some (some (ndP s))) (hj:h[j]?=some (some (memC W B))) (hK:h[K]?=some none) :
  qaf prog 11 [xd i,uV u,xc at_,xc now,xc fine] h (.tuple #[.slice none 0 0,xc 9]) [(i,ndP (s)),(j,memC W B)] []:=by
 refine qaq (G:=tys) (fun _:Rz=>True) (jjb W B s) [⟨i,ndP s,ndP s,ndP (s)⟩,⟨j,memC W B,memC W B,memC W B⟩] [] [xd 0,uV u,xc at_,xc now,xc fine] tysOK mixed func11 Q8I (call11) ⟨hi,hj,xb⟩ ⟨Q6w,Q6w,xb⟩ Q9p Q7e xb Q72 qex ?_
 intro g _
 repeat' (refine Bb ?_;first|refine Q55 ?_|refine Q6t ?_|refine Q65 ?_|refine Be (ni hd) ?_|refine Bf (ei ho) ?_|fail)
 refine Bb ?_
 refine qaz (s) g 0 2 3 4 5 [1] qey (fun i hi=>by have hi:i<2:=hi;simp only[xg,xI,or_false];omega) Q8I rfl rfl rfl Q7o Q8I rfl rfl re7 Q8I Q8I rfl rfl re2 Q8I rfl rfl re2 Q8I (fun k hk=>by simp at hk;omega) (fun k hk d hd l hl=>?_) (qbn rfl) ?_
 ·exact Q1F
 refine Ba (.plain rfl) ?_
 refine Ba Q6J ?_
 refine Ba xb ?_
 refine Ba Q73 ?_
 exact Bg
theorem jq2 (W:World) (B:List By) (s:NSt) (u:Option Sl) (bs:List Int) (hs:Src W B u bs) (hu:∀ j,j<bs.length->0<=bs.getD j 0/\bs.getD j 0<256) (hc:∀ s,u=some s->s.n<=s.c) (ok:NdH s) (at_ now fine:Int) (ht:0<=now/\now<=1000000) (hd:(decF bs).2=0) (ho:¬ (decF bs).1.s=s.id) (hf:qdj (decF bs).1.st now (s.C 6) (s.C 4)≠0) (i j K:Nat) (hij:i≠j) (h:Hp) (hi:h[i]?=some (some (ndP s))) (hj:h[j]?=some (some (memC W B))) (hK:h[K]?=some none) :
  qaf prog 11 [xd i,uV u,xc at_,xc now,xc fine] h (.tuple #[.slice none 0 0,xc (qdj (decF bs).1.st now (s.C 6) (s.C 4))]) [(i,ndP (s)),(j,memC W B)] []:=by
 refine qaq (G:=tys) (fun _:Rz=>True) (jjb W B s) [⟨i,ndP s,ndP s,ndP (s)⟩,⟨j,memC W B,memC W B,memC W B⟩] [] [xd 0,uV u,xc at_,xc now,xc fine] tysOK mixed func11 Q8I (call11) ⟨hi,hj,xb⟩ ⟨Q6w,Q6w,xb⟩ Q9p Q7e xb Q72 qex ?_
 intro g _
 repeat' (refine Bb ?_;first|refine Q55 ?_|refine Q6t ?_|refine Q65 ?_|refine Be (ni hd) ?_|refine Be (en ho) ?_|refine Bc (qkk (decF bs).1.st now (s.C 6) (s.C 4) _) ?_|refine Bf (nn hf) ?_|fail)
 refine Bb ?_
 refine qaz (s) g 0 2 3 4 5 [1] qey (fun i hi=>by have hi:i<2:=hi;simp only[xg,xI,or_false];omega) Q8I rfl rfl rfl Q7o Q8I rfl rfl re7 Q8I Q8I rfl rfl re2 Q8I rfl rfl re2 Q8I (fun k hk=>by simp at hk;omega) (fun k hk d hd l hl=>?_) (qbn rfl) ?_
 ·exact Q1F
 refine Ba (.plain rfl) ?_
 refine Ba Q6J ?_
 refine Ba xb ?_
 refine Ba Q73 ?_
 exact Bg
theorem jq3 (W:World) (B:List By) (s:NSt) (u:Option Sl) (bs:List Int) (hs:Src W B u bs) (hu:∀ j,j<bs.length->0<=bs.getD j 0/\bs.getD j 0<256) (hc:∀ s,u=some s->s.n<=s.c) (ok:NdH s) (at_ now fine:Int) (ht:0<=now/\now<=1000000) (hd:(decF bs).2=0) (ho:¬ (decF bs).1.s=s.id) (hf:qdj (decF bs).1.st now (s.C 6) (s.C 4)=0) (he:(jd9 s.T (decF bs).1.s (decF bs).1.b (decF bs).1.q now).1≠0) (i j K:Nat) (hij:i≠j) (h:Hp) (hi:h[i]?=some (some (ndP s))) (hj:h[j]?=some (some (memC W B))) (hK:h[K]?=some none) :
  qaf prog 11 [xd i,uV u,xc at_,xc now,xc fine] h (.tuple #[.slice none 0 0,xc (jd9 s.T (decF bs).1.s (decF bs).1.b (decF bs).1.q now).1]) [(i,ndP (s.tab (jd9 s.T (decF bs).1.s (decF bs).1.b (decF bs).1.q now).2)),(j,memC W B)] []:=by
 refine qaq (G:=tys) (fun _:Rz=>True) (jjb W B s) [⟨i,ndP s,ndP s,ndP (s.tab (jd9 s.T (decF bs).1.s (decF bs).1.b (decF bs).1.q now).2)⟩,⟨j,memC W B,memC W B,memC W B⟩] [] [xd 0,uV u,xc at_,xc now,xc fine] tysOK mixed func11 Q8I (call11) ⟨hi,hj,xb⟩ ⟨Q6w,Q6w,xb⟩ Q9p Q7e xb Q72 qex ?_
 intro g _
 repeat' (refine Bb ?_;first|refine Q55 ?_|refine Q6t ?_|refine Q5s ?_|refine Bf (nn he) ?_|fail)
 refine Bb ?_
 refine qaz (s.tab (jd9 s.T (decF bs).1.s (decF bs).1.b (decF bs).1.q now).2) g 0 2 3 4 5 [1] qey (fun i hi=>by have hi:i<2:=hi;simp only[xg,xI,or_false];omega) Q8I rfl rfl rfl (jgl (D:=(s.tab (jd9 s.T (decF bs).1.s (decF bs).1.b (decF bs).1.q now).2).nd g) (f:=2) (t:=3) (b:=4) (m:=5) (f':=1) (t':=2) (b':=3) (m':=4) Q8I Q8I Q8I Q8I) Q8I rfl rfl re7 Q8I Q8I rfl rfl re2 Q8I rfl rfl re2 Q8I (fun k hk=>by simp at hk;omega) (fun k hk d hd l hl=>?_) (qbn rfl) ?_
 ·exact Q1F
 refine Ba (.plain rfl) ?_
 refine Ba Q6J ?_
 refine Ba xb ?_
 refine Ba Q73 ?_
 exact Bg
theorem jq4 (W:World) (B:List By) (s:NSt) (u:Option Sl) (bs:List Int) (hs:Src W B u bs) (hu:∀ j,j<bs.length->0<=bs.getD j 0/\bs.getD j 0<256) (hc:∀ s,u=some s->s.n<=s.c) (ok:NdH s) (at_ now fine:Int) (ht:0<=now/\now<=1000000) (hd:(decF bs).2=0) (ho:¬ (decF bs).1.s=s.id) (hf:qdj (decF bs).1.st now (s.C 6) (s.C 4)=0) (he:(jd9 s.T (decF bs).1.s (decF bs).1.b (decF bs).1.q now).1=0) (hx:(s.tk (jd9 s.T (decF bs).1.s (decF bs).1.b (decF bs).1.q now).2 (decF bs).1 at_ now fine).o=none) (i j K:Nat) (hij:i≠j) (h:Hp) (hi:h[i]?=some (some (ndP s))) (hj:h[j]?=some (some (memC W B))) (hK:h[K]?=some none) :
  qaf prog 11 [xd i,uV u,xc at_,xc now,xc fine] h (.tuple #[.slice none 0 0,xc 0]) [(i,ndP (s.hr (s.tk (jd9 s.T (decF bs).1.s (decF bs).1.b (decF bs).1.q now).2 (decF bs).1 at_ now fine))),(j,memC W B)] []:=by
 refine qaq (G:=tys) (fun _:Rz=>True) (jjb W B s) [⟨i,ndP s,ndP s,ndP (s.hr (s.tk (jd9 s.T (decF bs).1.s (decF bs).1.b (decF bs).1.q now).2 (decF bs).1 at_ now fine))⟩,⟨j,memC W B,memC W B,memC W B⟩] [] [xd 0,uV u,xc at_,xc now,xc fine] tysOK mixed func11 Q8I (call11) ⟨hi,hj,xb⟩ ⟨Q6w,Q6w,xb⟩ Q9p Q7e xb Q72 qex ?_
 intro g _
 repeat' (refine Bb ?_;first|refine Q55 ?_|refine Q5s ?_|refine Be (ni he) ?_|fail)
 have hmay:=q1c hd
 have hhd:=hmay.2.1
 unfold Frm.head at hhd
 refine Bb ?_
 refine Bl Q6S fun v ms hR=>?_
 obtain⟨rfl,hR⟩:=hR
 rw[show(jet (s.nd g) s.bl s.fi (jd9 s.T (decF bs).1.s (decF bs).1.b (decF bs).1.q now).2 (decF bs).1.s.toNat (decF bs).1 at_ now fine)=s.tk (jd9 s.T (decF bs).1.s (decF bs).1.b (decF bs).1.q now).2 (decF bs).1 at_ now fine from rfl] at hR
 rw[hx] at hR
 obtain rfl:=hR
 repeat' (refine Bb ?_;first|refine Q55 ?_|refine Q6t ?_|fail)
 refine Bb ?_
 refine qaz (s.hr (s.tk (jd9 s.T (decF bs).1.s (decF bs).1.b (decF bs).1.q now).2 (decF bs).1 at_ now fine)) g 0 2 3 4 5 [1] qey (fun i hi=>by have hi:i<2:=hi;simp only[xg,xI,or_false];omega) Q8I rfl rfl rfl Q7r Q8I rfl rfl re7 Q8I Q8I rfl rfl re2 Q8I rfl rfl re2 Q8I (fun k hk=>by simp at hk;omega) (fun k hk d hd l hl=>?_) (qbn rfl) ?_
 ·exact Q1F
 refine Ba (.plain rfl) ?_
 refine Ba Q6J ?_
 refine Ba xb ?_
 refine Ba Q73 ?_
 exact Bg
theorem jq5 (W:World) (B:List By) (s:NSt) (u:Option Sl) (bs:List Int) (hs:Src W B u bs) (hu:∀ j,j<bs.length->0<=bs.getD j 0/\bs.getD j 0<256) (hc:∀ s,u=some s->s.n<=s.c) (ok:NdH s) (at_ now fine:Int) (ht:0<=now/\now<=1000000) (hd:(decF bs).2=0) (ho:¬ (decF bs).1.s=s.id) (hf:qdj (decF bs).1.st now (s.C 6) (s.C 4)=0) (he:(jd9 s.T (decF bs).1.s (decF bs).1.b (decF bs).1.q now).1=0) (x:Ou) (hx:(s.tk (jd9 s.T (decF bs).1.s (decF bs).1.b (decF bs).1.q now).2 (decF bs).1 at_ now fine).o=some x) (i j K:Nat) (hij:i≠j) (h:Hp) (hi:h[i]?=some (some (ndP s))) (hj:h[j]?=some (some (memC W B))) (hK:h[K]?=some none) :
  CallAll prog 11 [xd i,uV u,xc at_,xc now,xc fine] h (fun v ms=>∃ κ:Nat,1<=κ/\v=.tuple #[.slice (some ⟨K,0,some 0⟩) 1 κ,xc 0]/\ms=[(i,ndP (s.hr (s.tk (jd9 s.T (decF bs).1.s (decF bs).1.b (decF bs).1.q now).2 (decF bs).1 at_ now fine))),(j,memC W B),(K,ouR [x] κ)]):=by
 have key:=qaw (G:=tys) (h:=h) (vs:=[xd i,uV u,.int .i64 at_,.int .i64 now,.int .i64 fine]) (fun _:Rz=>True) (jjb W B s) (α:=Nat) (fun κ=>1<=κ) (fun κ=>.tuple #[.slice (some ⟨K,0,some 0⟩) 1 κ,.int .i64 0]) [⟨i,ndP s,ndP s,ndP s⟩,⟨j,memC W B,memC W B,memC W B⟩] (fun _=>[ndP (s.hr (s.tk (jd9 s.T (decF bs).1.s (decF bs).1.b (decF bs).1.q now).2 (decF bs).1 at_ now fine)),memC W B]) (fun κ=>[⟨K,12,ouR [x] κ⟩]) [xd 0,uV u,.int .i64 at_,.int .i64 now,.int .i64 fine] tysOK mixed func11 Q8I (call11) ⟨hi,hj,xb⟩ ⟨Q6w,Q6w,xb⟩ (fun κ _=>⟨Q6w,Q6w,xb⟩) Q9p Q7e (fun κ hκ=>Q8v) Q72 qex ?_
 ·refine qat key fun v ms hR=>?_
  exact Q3z
 intro g _
 repeat' (refine Bb ?_;first|refine Q55 ?_|refine Q5s ?_|refine Be (ni he) ?_|fail)
 have hmay:=q1c hd
 have hhd:=hmay.2.1
 unfold Frm.head at hhd
 refine Bb ?_
 refine Bl Q6S fun v ms hR=>?_
 obtain⟨rfl,hR⟩:=hR
 rw[show(jet (s.nd g) s.bl s.fi (jd9 s.T (decF bs).1.s (decF bs).1.b (decF bs).1.q now).2 (decF bs).1.s.toNat (decF bs).1 at_ now fine)=s.tk (jd9 s.T (decF bs).1.s (decF bs).1.b (decF bs).1.q now).2 (decF bs).1 at_ now fine from rfl] at hR
 rw[hx] at hR
 obtain⟨κ,hκ,rfl⟩:=hR
 repeat' (refine Bb ?_;first|refine Q55 ?_|refine Q6t ?_|fail)
 refine Bb ?_
 refine qaz (s.hr (s.tk (jd9 s.T (decF bs).1.s (decF bs).1.b (decF bs).1.q now).2 (decF bs).1 at_ now fine)) g 0 2 3 4 5 [1,12] qey (fun i hi=>by have hi:i<2:=hi;simp only[xg,xI,or_false];omega) Q8I rfl rfl rfl Q7r Q8I rfl rfl re7 Q8I Q8I rfl rfl re2 Q8I rfl rfl re2 Q8I (fun k hk=>by simp at hk;omega) (fun k hk d hd l hl=>?_) (fun ρ ρ' ha=>by have:=ha 12 ⟨_,rfl⟩;simp[den,den2,den1,den0,jeu,this]) ?_
 ·simp only[xg,xI,or_false] at hk;rcases hk with rfl|rfl
  ·exact Q4M
  ·obtain rfl:ouR [x] κ=d:=by simpa using hd
   exact qa1 hl
 refine Bo κ ⟨hκ,?_⟩
 refine Ba (.tuple ⟨.slice Q8I,.plain rfl,xb⟩) ?_
 refine Ba Q6J ?_
 refine Ba Q6K ?_
 refine Ba ⟨⟨.inr ⟨_,rfl,rfl⟩,.inr ⟨_,rfl,rfl⟩,xb⟩,.inl rfl,xb⟩ ?_
 exact Bg
def q6v (W:World) (B:List By) (r:HeardS) (i j K:Nat) (v:Value) (ms:Mz):Prop:=
 match r.o with
 | none=>v=.tuple #[.slice none 0 0,.int .i64 r.e]/\ms=[(i,ndP r.s),(j,memC W B)]
 | some x=>∃ κ:Nat,1<=κ/\v=.tuple #[.slice (some ⟨K,0,some 0⟩) 1 κ,.int .i64 r.e]/\ms=[(i,ndP r.s),(j,memC W B),(K,ouR [x] κ)]
theorem qjp {r:HeardS} {s':NSt} {e':Int} {i j K:Nat} {h:Hp} {rh:List Nat} (e:r=⟨s',none,e'⟩) (hc:qaf prog g vs h (.tuple #[.slice none 0 0,xc e']) [(i,ndP s'),(j,memC W B)] rh):CallAll prog g vs h (q6v W B r i j K):=by
 subst e;exact qat (qc0 hc) fun v ms hR=>hR
theorem ql4 (W:World) (B:List By) (s:NSt) (u:Option Sl) (bs:List Int) (hs:Src W B u bs) (hu:∀ j,j<bs.length->0<=bs.getD j 0/\bs.getD j 0<256) (hc:∀ s,u=some s->s.n<=s.c) (ok:NdH s) (at_ now fine:Int) (i j K:Nat) (hij:i≠j) (h:Hp) (hi:h[i]?=some (some (ndP s))) (hj:h[j]?=some (some (memC W B))) (hK:h[K]?=some none) :
  CallAll prog 11 [xd i,uV u,xc at_,xc now,xc fine] h (q6v W B (jd1 s bs at_ now fine) i j K):=by
 by_cases ht:0<=now/\now<=1000000
 rotate_left
 ·refine qjp ?_ (jqz W B s u bs hs hu hc ok at_ now fine ht i j K hij h hi hj hK);unfold jd1;rw[if_pos ht]
 by_cases hd:(decF bs).2=0
 rotate_left
 ·refine qjp ?_ (jq0 W B s u bs hs hu hc ok at_ now fine ht hd i j K hij h hi hj hK);unfold jd1;rw[if_neg (not_not_intro ht),if_pos hd]
 by_cases ho:(decF bs).1.s=s.id
 ·refine qjp ?_ (jq1 W B s u bs hs hu hc ok at_ now fine ht hd ho i j K hij h hi hj hK);unfold jd1;rw[if_neg (not_not_intro ht),if_neg (not_not_intro hd),if_pos ho]
 by_cases hf:qdj (decF bs).1.st now (s.C 6) (s.C 4)=0
 rotate_left
 ·refine qjp ?_ (jq2 W B s u bs hs hu hc ok at_ now fine ht hd ho hf i j K hij h hi hj hK);unfold jd1;rw[if_neg (not_not_intro ht),if_neg (not_not_intro hd),if_neg ho,if_pos hf]
 by_cases he:(jd9 s.T (decF bs).1.s (decF bs).1.b (decF bs).1.q now).1=0
 rotate_left
 ·refine qjp ?_ (jq3 W B s u bs hs hu hc ok at_ now fine ht hd ho hf he i j K hij h hi hj hK);unfold jd1;rw[if_neg (not_not_intro ht),if_neg (not_not_intro hd),if_neg ho,if_neg (not_not_intro hf),if_pos he]
 have e1:jd1 s bs at_ now fine=⟨s.hr (s.tk (jd9 s.T (decF bs).1.s (decF bs).1.b (decF bs).1.q now).2 (decF bs).1 at_ now fine),(s.tk (jd9 s.T (decF bs).1.s (decF bs).1.b (decF bs).1.q now).2 (decF bs).1 at_ now fine).o,0⟩:=by
  unfold jd1;rw[if_neg (not_not_intro ht),if_neg (not_not_intro hd),if_neg ho,if_neg (not_not_intro hf),if_neg (not_not_intro he)]
 cases hx:(s.tk (jd9 s.T (decF bs).1.s (decF bs).1.b (decF bs).1.q now).2 (decF bs).1 at_ now fine).o with
 | none=>exact qjp (by rw[e1,hx]) (jq4 W B s u bs hs hu hc ok at_ now fine ht hd ho hf he hx i j K hij h hi hj hK)
 | some x=>
  rw[e1,hx];exact jq5 W B s u bs hs hu hc ok at_ now fine ht hd ho hf he x hx i j K hij h hi hj hK
theorem jdg {w:World} {r:Rw} (hr:BufOK r bs) (hA:RwAt w r):r.o=0/\ByAt w ⟨r.b,r.c,bs⟩:=by
 obtain⟨q4,cur,z,hh,hz,hs⟩:=hA.own hr.w;have hl:r.xs.length=bs.length:=by rw[hr.xs,yH]
 refine⟨q4,hA.lt,fun j hj=>?_,fun j hj=>?_⟩
 ·have hj:j<bs.length:=hj;have h1:=hA.cell j Q8G;rw[q4,xn,hr.xs,xT,xr hj] at h1;show w.cell? ⟨r.b,j,none⟩=some (.int .u8 (bs.getD j 0));rw[h1,xD,xr hj];rfl
 ·have hj:j<bs.length:=hj;have hc:=hA.cap;have hn:=hr.n;have hk:=hr.k;rw[hk,yo] at hs;exact(qu9 hh hz j Q8G).2
theorem jdh {r:Rw} (hr:BufOK r bs) (h0:r.o=0):(some r.sl:Option Sl)=(By.mk r.b r.c bs).s:=by
 show(some ⟨r.b,r.o,r.n,r.c,none⟩:Option Sl)=some ⟨r.b,0,bs.length,r.c,none⟩;rw[h0,hr.n]
open Go Go.RowKit Sx
theorem q48 (n c:Int) (hc:0<=c/\c<256):jhs n c=IntKind.i64.wrap (n*256+c):=by
 unfold jhs;rw[BitVec.toNat_or,BitVec.toNat_ofInt,BitVec.toNat_ofInt];have hA:(IntKind.i64.wrap (n*2^8)%((2^IntKind.i64.bits:Nat):Int)).toNat=2^8*(n%72057594037927936).toNat:=by
  show(IntKind.i64.wrap (n*256)%18446744073709551616).toNat=256*(n%72057594037927936).toNat;rw[xN];omega
 have hC:(c%((2^IntKind.i64.bits:Nat):Int)).toNat=c.toNat:=by
  show(c%18446744073709551616).toNat=c.toNat;omega
 rw[hA,hC,<-Nat.two_pow_add_eq_or_of_lt (i:=8) Q8G];rw[xN,xN];omega
theorem q1d (n c:Int):IntKind.i64.wrap (IntKind.i64.wrap n*256+c)=IntKind.i64.wrap (n*256+c):=by
 rw[xN,xN,xN];omega
def numBs (l:List Int):Int:=l.foldl (fun n c=>n*256+c) 0
theorem q1e (l:List Int) (hl:∀ c∈l,0<=c/\c<256):takeN l=IntKind.i64.wrap (numBs l):=by
 unfold takeN numBs;have key:∀ (l:List Int) (a b:Int),(∀ c∈l,0<=c/\c<256)->a=IntKind.i64.wrap b->l.foldl jhs a=IntKind.i64.wrap (l.foldl (fun n c=>n*256+c) b):=by
  intro l
  induction l with
  | nil=>exact fun a b _ h=>h
  | cons c l ih=>
   intro a b hc h;refine ih _ _ (fun x hx=>hc x (yn _ hx)) ?_;rw[q48 a c (hc c (yJ ..)),h,q1d]
 exact key l 0 0 hl rfl
theorem q1f (l:List Int) (c:Int):numBs (l++[c])=numBs l*256+c:=by simp[numBs]
variable {n:Int}
theorem jo4 {m k:Int} (h:0<=n):m / n / k=m / (n*k):=by
 first|exact Int.ediv_ediv_of_nonneg h|exact Int.ediv_ediv_eq_ediv_mul m h|(rw[Int.ediv_ediv,if_neg Q8G,Int.sub_zero])
theorem q1g (m P:Int) (hP:0<P):m / 256%P*256+m%256=m%(P*256):=by
 obtain⟨q,hq⟩:∃ q,q=m / 256:=⟨_,rfl⟩;obtain⟨r,hr⟩:∃ r,r=m%256:=⟨_,rfl⟩;have h1:m=256*q+r:=by omega
 have hr0:0<=r/\r<256:=by omega
 rw[<-hq,<-hr];clear hq hr;have h2:=Int.emod_add_mul_ediv q P;have h3:=Int.emod_nonneg q (by omega:P≠0);have h4:=Int.emod_lt_of_pos q hP;generalize q%P=t at *;generalize q / P=u at *;have e:m=(t*256+r)+(P*256)*u:=by rw[h1,<-h2];grind
 rw[e,Int.add_mul_emod_self_left];exact(Int.emod_eq_of_lt Q8G Q8G).symm
theorem jdi (n:Int) (w:Nat):∀ k,k<=w->numBs (beK n w k)=n / 256^(w-k)%256^k:=by
 intro k
 induction k with
 | zero=>intro _;show(0:Int)=_%1;omega
 | succ k ih=>
  intro h;rw[beK,q1f,ih Q8G,qvb,show w-1-k=w-(k+1) from by omega,show w-k=w-(k+1)+1 from by omega,Int.pow_succ,<-jo4 (Int.pow_nonneg Q8H),Int.pow_succ];exact q1g _ _ (Int.pow_pos Q8H)
theorem jl3 (n:Int) (w:Nat):∀ k,∀ c∈beK n w k,0<=c/\c<256:=by
 intro k
 induction k with
 | zero=>intro c h;cases h
 | succ k ih=>
  intro c h;rw[beK] at h;rcases yM.1 h with h|h
  ·exact ih c h
  ·obtain rfl:=yW.1 h;unfold qvb;omega
theorem ql5 (n:Int) (w:Nat):takeN (be n w)=IntKind.i64.wrap (n%256^w):=by
 rw[q1e _ (jl3 n w w),jdi n w w (nlr _),Nat.sub_self];show IntKind.i64.wrap (n / 1%_)=_;rw[Int.ediv_one]
theorem qkl (h:0<=n/\n<256):takeN (be n 1)=n:=by
 rw[ql5];show IntKind.i64.wrap (n%256)=n;rw[xN];omega
theorem qvg (h:0<=n/\n<=65535):takeN (be n 2)=n:=by
 rw[ql5];show IntKind.i64.wrap (n%65536)=n;rw[xN];omega
theorem qvh (h : -2147483648<=n/\n<2147483648):IntKind.i64.wrap (IntKind.i32.wrap (takeN (be n 4)))=n:=by
 rw[ql5];show IntKind.i64.wrap (IntKind.i32.wrap (IntKind.i64.wrap (n%4294967296)))=n;rw[xN,xN,wrap_i32];omega
theorem q1h (h:0<=n/\n<4294967296):takeN (be n 4)=n:=by
 rw[ql5];show IntKind.i64.wrap (n%4294967296)=n;rw[xN];omega
theorem qf3 (h : -9223372036854775808<=n/\n<=9223372036854775807):takeN (be n 8)=n:=by
 rw[ql5];show IntKind.i64.wrap (n%18446744073709551616)=n;rw[xN];omega
theorem qc4 {l m:List Int} {n:Nat} (h:l.length=n):(l++m).drop n=m:=by subst h;simp
theorem qcx {l m:List Int} {n:Nat} (h:l.length=n):(l++m).take n=l:=by subst h;simp
structure jl4 (f:Frm):Prop where
 k:0<=f.k/\f.k<256
 s:0<=f.s/\f.s<256
 ds:0<=f.ds/\f.ds<256
 wh:0<=f.wh/\f.wh<256
 b:0<=f.b/\f.b<=65535
 q:0<=f.q/\f.q<=65535
 st:Fi f.st
 t1:Fi f.t1
 t2:Fi f.t2
 wn:Fi f.wn
 x : -2147483648<=f.x/\f.x<2147483648
 y : -2147483648<=f.y/\f.y<2147483648
 a:Fi f.a
 c:Fi f.c
 d:Fi f.d
abbrev encF (f:Frm):List Int:=ji9 f.k f.s f.b f.q f.st f.ds f.t1 f.t2 f.wh f.wn f.x f.y f.a f.c f.d
abbrev hdF (f:Frm):List Int:=jjr f.k f.s f.b f.q f.st f.ds f.t1 f.t2 f.wh f.wn f.x f.y f.a f.c f.d
theorem qvi (f:Frm):(hdF f).length=76:=by
 unfold hdF jjr;simp only[xt,qa7,xQ,x5]
theorem q98 (f:Frm):(encF f).length=80:=by
 show(hdF f++be _ 4).length=80;rw[xt,qvi,qa7]
theorem q99 (a b:Int):0<=jfz a b/\jfz a b<4294967296:=by
 unfold jfz;rw[wrap_u32];omega
theorem jaa (f:Frm) (h:jl4 f):jkt (encF f)=f:=by
 obtain⟨k,s,b,q,st,ds,t1,t2,wh,wn,x,y,a,c,d⟩:=f;obtain⟨hk,hs,hds,hwh,hb,hq,hst,ht1,ht2,hwn,hx,hy,ha,hc,hd⟩:=h;simp only at hk hs hds hwh hb hq hst ht1 ht2 hwn hx hy ha hc hd;generalize hE:encF ⟨k,s,b,q,st,ds,t1,t2,wh,wn,x,y,a,c,d⟩=E;obtain⟨T,hT⟩:∃ T,E=[97,108,105,49]++(be k 1++(be s 1++(be ds 1++(be wh 1++(be b 2++(be q 2++(be st 8++(be t1 8++(be t2 8++(be wn 8++(be x 4++(be y 4++(be a 8++(be c 8++( (be d 8++T)))))))))))))))):=⟨_,by rw[<-hE];unfold encF ji9 jjr;simp only[zx];rfl⟩;clear hE;have D0:E.drop 4=be k 1++(be s 1++(be ds 1++(be wh 1++(be b 2++(be q 2++(be st 8++(be t1 8++(be t2 8++(be wn 8++(be x 4++(be y 4++(be a 8++(be c 8++(be d 8++T)))))))))))))):=by rw[hT];exact qc4 rfl
 have D1:E.drop 5=be s 1++(be ds 1++(be wh 1++(be b 2++(be q 2++(be st 8++(be t1 8++(be t2 8++(be wn 8++(be x 4++(be y 4++(be a 8++(be c 8++(be d 8++T))))))))))))):=by rw[show 5=4+1 from rfl,<-yi,D0];exact qc4 (qa7 _ _)
 have D2:E.drop 6=be ds 1++(be wh 1++(be b 2++(be q 2++(be st 8++(be t1 8++(be t2 8++(be wn 8++(be x 4++(be y 4++(be a 8++(be c 8++(be d 8++T)))))))))))):=by rw[show 6=5+1 from rfl,<-yi,D1];exact qc4 (qa7 _ _)
 have D3:E.drop 7=be wh 1++(be b 2++(be q 2++(be st 8++(be t1 8++(be t2 8++(be wn 8++(be x 4++(be y 4++(be a 8++(be c 8++(be d 8++T))))))))))):=by rw[show 7=6+1 from rfl,<-yi,D2];exact qc4 (qa7 _ _)
 have D4:E.drop 8=be b 2++(be q 2++(be st 8++(be t1 8++(be t2 8++(be wn 8++(be x 4++(be y 4++(be a 8++(be c 8++(be d 8++T)))))))))):=by rw[show 8=7+1 from rfl,<-yi,D3];exact qc4 (qa7 _ _)
 have D5:E.drop 10=be q 2++(be st 8++(be t1 8++(be t2 8++(be wn 8++(be x 4++(be y 4++(be a 8++(be c 8++(be d 8++T))))))))):=by rw[show 10=8+2 from rfl,<-yi,D4];exact qc4 (qa7 _ _)
 have D6:E.drop 12=be st 8++(be t1 8++(be t2 8++(be wn 8++(be x 4++(be y 4++(be a 8++(be c 8++(be d 8++T)))))))):=by rw[show 12=10+2 from rfl,<-yi,D5];exact qc4 (qa7 _ _)
 have D7:E.drop 20=be t1 8++(be t2 8++(be wn 8++(be x 4++(be y 4++(be a 8++(be c 8++(be d 8++T))))))):=by rw[show 20=12+8 from rfl,<-yi,D6];exact qc4 (qa7 _ _)
 have D8:E.drop 28=be t2 8++(be wn 8++(be x 4++(be y 4++(be a 8++(be c 8++(be d 8++T)))))):=by rw[show 28=20+8 from rfl,<-yi,D7];exact qc4 (qa7 _ _)
 have D9:E.drop 36=be wn 8++(be x 4++(be y 4++(be a 8++(be c 8++(be d 8++T))))):=by rw[show 36=28+8 from rfl,<-yi,D8];exact qc4 (qa7 _ _)
 have D10:E.drop 44=be x 4++(be y 4++(be a 8++(be c 8++(be d 8++T)))):=by rw[show 44=36+8 from rfl,<-yi,D9];exact qc4 (qa7 _ _)
 have D11:E.drop 48=be y 4++(be a 8++(be c 8++(be d 8++T))):=by rw[show 48=44+4 from rfl,<-yi,D10];exact qc4 (qa7 _ _)
 have D12:E.drop 52=be a 8++(be c 8++(be d 8++T)):=by rw[show 52=48+4 from rfl,<-yi,D11];exact qc4 (qa7 _ _)
 have D13:E.drop 60=be c 8++(be d 8++T):=by rw[show 60=52+8 from rfl,<-yi,D12];exact qc4 (qa7 _ _)
 have D14:E.drop 68=be d 8++T:=by rw[show 68=60+8 from rfl,<-yi,D13];exact qc4 (qa7 _ _)
 unfold jkt;rw[D0,D1,D2,D3,D4,D5,D6,D7,D8,D9,D10,D11,D12,D13,D14];rw[qcx (qa7 k 1),qcx (qa7 s 1),qcx (qa7 ds 1),qcx (qa7 wh 1),qcx (qa7 b 2),qcx (qa7 q 2),qcx (qa7 st 8),qcx (qa7 t1 8),qcx (qa7 t2 8),qcx (qa7 wn 8),qcx (qa7 x 4),qcx (qa7 y 4),qcx (qa7 a 8),qcx (qa7 c 8),qcx (qa7 d 8)];rw[qkl hk,qkl hs,qkl hds,qkl hwh,qvg hb,qvg hq,qf3 hst,qf3 ht1,qf3 ht2,qf3 hwn,qvh hx,qvh hy,qf3 ha,qf3 hc,qf3 hd]
theorem jab (f:Frm) (h:jl4 f) (hm:f.may):decF (encF f)=(f,0):=by
 have hl:=q98 f;have h4:(encF f).take 4=[97,108,105,49]:=by
  show(hdF f++_).take 4=_;rw[List.take_append_of_le_length (by rw[qvi];decide)];show([97,108,105,49]++_++_++_++_++_++_++_++_++_++_++_++_++_++_++_).take 4=_;simp only[zx];exact qcx rfl
 have h76:(encF f).take 76=hdF f:=qcx (qvi f);have hd76:(encF f).drop 76=be (IntKind.i64.wrap (jgx (hdF f))) 4:=qc4 (qvi f);unfold decF;rw[if_neg Q8G,if_neg Q8G,if_neg (by rw[h4];exact fun h=>h rfl),hd76,h76,List.take_of_length_le (by rw[qa7];exact nlr _)];have hs:0<=jgx (hdF f)/\jgx (hdF f)<4294967296:=q99 _ _;have e:IntKind.i64.wrap (jgx (hdF f))=jgx (hdF f):=jdx _ Q8G Q8G;rw[e,q1h hs,if_neg (fun h=>h rfl),jaa f h,if_pos hm]
theorem q49 (W:World) (F:List By) (k s b q st ds t1 t2 wh wn x y a c d:Int) (hk:Fi k) (hs:Fi s) (hb:Fi b) (hq:Fi q) (hst:Fi st) (hds:Fi ds) (ht1:Fi t1) (ht2:Fi t2) (hwh:Fi wh) (hwn:Fi wn) (hx:Fi x) (hy:Fi y) (ha:Fi a) (hc:Fi c) (hd:Fi d) (hM:∀ h,qaf prog 59 [frF k s b q st ds t1 t2 wh wn x y a c d] h (.bool true) [] []) (i:Nat) (h:Hp) (hi:h[i]?=some (some (memC W F))) :
  CallAll prog 19 [frF k s b q st ds t1 t2 wh wn x y a c d] h fun v ms=>∃ e:By,e.bs=ji9 k s b q st ds t1 t2 wh wn x y a c d/\e.bs.length<=e.c/\e.b∉F.map By.b/\v=.tuple #[uV e.s,xc 0]/\ms=[(i,memC W (e::F))]:=fun X ρ w xs H hxs=>by
 obtain rfl:=qhb (vs:=[frF k s b q st ds t1 t2 wh wn x y a c d]) rfl hxs
 obtain⟨S,E⟩:=H.ext
 have M:MemOK W F (ρ i) (S i) w:=E.inv i _ hi
 refine .inr ⟨call19 _ w,(q4s k s b q st ds t1 t2 wh wn x y a c d hk hs hb hq hst hds ht1 ht2 hwh hwn hx hy ha hc hd hM w (by have:=H.lt _ _ hi;omega)).mono ?_⟩
 rintro e w' ⟨r,hr,rfl,hB,hA⟩
 obtain⟨hA,hge⟩:=hA r (yW.2 rfl)
 obtain⟨h0,hby⟩:=jdg hr hA
 obtain⟨hno,H'⟩:=q4l (e:=⟨r.b,r.c,ji9 k s b q st ds t1 t2 wh wn x y a c d⟩) H hi hB hby hge
 have e:∀ r2,den2 r2 (uV (some r.sl))=uR (some r.sl):=fun r2=>qsy (some r.sl) r2
 have e2:∀ r2,den r2 (.tuple #[uV (some r.sl),xc 0])=.tuple #[uR (some r.sl),xc 0]:=fun r2=>by
  show Value.tuple (#[uV (some r.sl),xc 0].map (den2 r2))=_;simp only[zl,xp,yh,e];rfl
 refine⟨_,rfl,.tuple #[uV (some r.sl),xc 0],_,ρ,⟨⟨r.b,r.c,ji9 k s b q st ds t1 t2 wh wn x y a c d⟩,rfl,by show(ji9 k s b q st ds t1 t2 wh wn x y a c d).length<=r.c;rw[<-hr.n];exact hA.cap,hno,by rw[jdh hr h0],rfl⟩,AgreeOn.refl _ _,H',fun r2 _=>?_⟩
 rw[e2,e2]
theorem qf4 (W:World) (F:List By) (f:Frm) (hin:jl4 f) (hm:f.may) (i:Nat) (h:Hp) (hi:h[i]?=some (some (memC W F))) :
  CallAll prog 19 [fmV f] h fun v ms=>∃ e:By,e.bs=encF f/\e.bs.length<=e.c/\v=.tuple #[uV e.s,xc 0]/\ms=[(i,memC W (e::F))]:=by
 obtain⟨a1,a2,a3,a4,a5,a6,a7,a8,a9,a10,a11,a12,a13,a14,a15⟩:=hin
 refine qat (q49 W F f.k f.s f.b f.q f.st f.ds f.t1 f.t2 f.wh f.wn f.x f.y f.a f.c f.d ⟨by omega,by omega⟩ ⟨by omega,by omega⟩ ⟨by omega,by omega⟩ ⟨by omega,by omega⟩ a7 ⟨by omega,by omega⟩ a8 a9 ⟨by omega,by omega⟩ a10 ⟨by omega,by omega⟩ ⟨by omega,by omega⟩ a13 a14 a15 (fun h=>by have:=qs1 f h;rw[xi hm] at this;exact this) i h hi) fun v ms hR=>?_
 obtain⟨e,h1,h2,_,h3,h4⟩:=hR
 exact⟨e,h1,h2,h3,h4⟩
theorem ql6 (f:Frm):∀ j,j<(encF f).length->0<=(encF f).getD j 0/\(encF f).getD j 0<256:=by
 have be:∀ n w,∀ c∈be n w,0<=c/\c<256:=fun n w=>jl3 n w w
 have app:∀ {a b:List Int},(∀ c∈a,0<=c/\c<256)->(∀ c∈b,0<=c/\c<256)->∀ c∈a++b,0<=c/\c<256:=fun ha hb c hc=>(yM.1 hc).elim (ha c) (hb c)
 have al:∀ c∈encF f,0<=c/\c<256:=by
  unfold encF ji9 jjr;repeat' (first|with_reducible refine app ?_ ?_|with_reducible exact be _ _)
  decide
 intro j hj;rw[xD,xr hj];exact al _ (zj hj)
open Go Go.RowKit Sx
section
variable {P:Program} {o:Oper} {st:St}
theorem qef {x y:Operand} {t e:TypeId} {ei:TypeInfo} (ho:o.op=.call ⟨.builtin .append,#[x,y],#[t,t]⟩) (hx:EvTo x st (.slice none 0 0)) (hy:EvTo y st (.slice none 0 0))
  (h1:P.underlying t=some (.slice e)) (h2:P.info? e=some ei) {K:Value->Mz->Prop} (hK:K (.slice none 0 0) []):N (EffAll P o st K):=N.mk fun X ρ a w R next Q hn=>by
 have hx':a.eval x=.slice none 0 0:=(hx.den R).self.symm
 have hy':a.eval y=.slice none 0 0:=(hy.den R).self.symm
 have hrun:(Builtin.append_ #[t,t] o.type #[.slice none 0 0,.slice none 0 0]).run P w=.ok (.slice none 0 0) w:=by
  simp[Builtin.append_,run_underlying h1,qa5 h2 _,Builtin.lenOf,Builtin.firstCells,storeCells]
 have hrun2:=qch (P:=P) (o:=o) (x:=x) (y:=y) (t:=t) (a:=a) ho Q9B
 unfold Oper.wp
 rw[hrun2]
 exact hn _ _ ρ _ _ hK ⟨AgreeOn.refl _ _,R.heap,fun r hr=>rfl⟩
theorem qkm:∃ ei,prog.info? 48=some ei:=by
 obtain⟨ei,d,h1,h2,h3⟩:=qao tysOK (t:=48) (K:=fun ei _=>True) trivial;exact⟨ei,h1⟩
end
abbrev jl5 (x:Int):Chunk:=⟨true,1,[(0,1,xc x)]⟩
abbrev jl6 (x:Int):Chunk:=⟨false,1,[(0,1,xc x)]⟩
theorem jo5 (ix:List (Nat×Nat)) (x:Int):qbb ix (jl5 x) (jl6 x):=fun j hj=>by
 match j,hj with
 | 0,_=>exact .plain rfl
abbrev jk2 (S:List Ou) (c:Nat):Chunk:=ouC false c (fun i=>S.getD i Ou.oo)
variable {S:List Ou}
theorem qgz:qbb ix (ouR S c) (jk2 S c):=q05 fun _ _=>rfl
theorem qe5 {p n:Nat} (i:Nat) (x:Ou) (hx:S.getD i Ou.oo=x) (hn:n=16) (h:i<c) (e:p=i*16):Reads (jk2 S c) p true n (ouV x):=by
 subst hx;exact jl2 (o:=false) (T:=fun i=>S.getD i Ou.oo) i hn h e
theorem qh4 {e:By} (h:e.bs=bs):Src W (e::B) e.s bs:=by
 subst h;exact .own (yJ ..)
theorem By.cap_ok {e:By} (h:e.bs.length<=e.c):∀ s,e.s=some s->s.n<=s.c:=fun s hs=>by
 obtain rfl:(⟨e.b,0,e.bs.length,e.c,none⟩:Sl)=s:=Option.some.inj hs;exact h
def jfa (x:Ou):Prop:=jl4 x.f/\x.f.may
abbrev atP (x:Ou) (far:Int):Int:=IntKind.i64.wrap (x.t+far)
theorem qoy (W:World) (B:List By) (x0:Ou) (s0 s1:NSt) (cp:Nat) (hcp:1<=cp) (far late fine:Int) (hx0:jfa x0) (ok0:NdH s0) (c0:Int) (hr0:jd1 s0 (encF x0.f) (atP x0 far) late fine=⟨s1,none,c0⟩) (i1 i2 i3 i4 K:Nat) (h:Hp) (h1:h[i1]?=some (some (ndP s0))) (h2:h[i2]?=some (some (ouR [x0] cp))) (h3:h[i3]?=some (some (jl5 far))) (h4:h[i4]?=some (some (memC W B))) (hK:h[K]?=some none) (hne:[i1,i2,i3,i4].Nodup) :
  CallAll prog 18 [xd i1,.slice (some ⟨i2,0,some 0⟩) 1 cp,xc late,xc fine,xd i3] h (fun v ms=>∃ B':List By,v=.slice none 0 0/\ms=[(i1,ndP s1),(i4,memC W B')]):=by
 have key:=qaw (G:=tys) (h:=h) (vs:=[xd i1,.slice (some ⟨i2,0,some 0⟩) 1 cp,.int .i64 late,.int .i64 fine,xd i3]) (fun _:Unit=>True) (fun _=>_) (α:=List By) (fun κ=>True) (fun κ=>.slice none 0 0) [⟨i1,ndP s0,ndP s0,ndP s0⟩,⟨i2,_,jk2 [x0] cp,noC⟩,⟨i3,_,jl6 far,noC⟩,⟨i4,memC W B,memC W B,memC W B⟩] (fun κ=>[ndP s1,noC,noC,memC W κ]) (fun κ=>[]) [xd 0,.slice (some ⟨1,0,some 0⟩) 1 cp,.int .i64 late,.int .i64 fine,xd 2] tysOK mixed func18 Q8I (call18) ⟨h1,h2,h3,h4,xb⟩ Q7a (fun κ _=>Q7a) (qb3 hne) Q7s (fun κ _=>trivial) Q7n Opens.same ?_
 ·refine qat key fun v ms hR=>?_
  obtain⟨κ,hκ,rfl,rfl⟩:=hR;exact⟨κ,rfl,rfl⟩
 obtain⟨oi,oinfo⟩:=qkm
 rintro⟨⟩ -
 repeat' (refine Bb ?_;first|refine Q55 ?_|refine Bu 2 ?_|refine Q63 ?_|refine Q5e ?_|fail)
 refine Bb ?_
 refine Bl Q7Z fun v ms hR=>?_
 obtain⟨e0,he0,hc0,rfl,rfl⟩:=hR
 repeat' (refine Bb ?_;first|refine Q55 ?_|refine Q5d ?_|fail)
 refine Bb ?_
 refine Bl Q6R fun v ms hR=>?_
 rw[hr0] at hR
 obtain⟨rfl,rfl⟩:=hR
 repeat' (refine Bb ?_;first|refine Q55 ?_|refine Q5e ?_|refine Q5d ?_|refine Q6a ?_|fail)
 repeat' (refine Bb ?_;first|refine Q55 ?_|refine Q5d ?_|fail)
 refine Bb ?_
 refine Bq ?_
 refine Bo (e0::B) ⟨xb,?_⟩
 refine Ba (.plain rfl) ?_
 refine Ba Q6J ?_
 refine Ba xb ?_
 refine Ba ⟨Q7q,xb⟩ ?_
 exact Bg
theorem q1i (W:World) (B:List By) (x0:Ou) (s0 s1:NSt) (cp:Nat) (hcp:1<=cp) (far late fine:Int) (hx0:jfa x0) (ok0:NdH s0) (c0:Int) (z:Ou) (hr0:jd1 s0 (encF x0.f) (atP x0 far) late fine=⟨s1,some z,c0⟩) (i1 i2 i3 i4 K:Nat) (h:Hp) (h1:h[i1]?=some (some (ndP s0))) (h2:h[i2]?=some (some (ouR [x0] cp))) (h3:h[i3]?=some (some (jl5 far))) (h4:h[i4]?=some (some (memC W B))) (hK:h[K]?=some none) (hne:[i1,i2,i3,i4].Nodup) :
  CallAll prog 18 [xd i1,.slice (some ⟨i2,0,some 0⟩) 1 cp,xc late,xc fine,xd i3] h (fun v ms=>∃ (κ:Nat) (B':List By),1<=κ/\v=.slice (some ⟨K,0,some 0⟩) 1 κ/\ms=[(i1,ndP s1),(i4,memC W B'),(K,ouR [z] κ)]):=by
 have key:=qaw (G:=tys) (h:=h) (vs:=[xd i1,.slice (some ⟨i2,0,some 0⟩) 1 cp,.int .i64 late,.int .i64 fine,xd i3]) (fun _:Unit=>True) (fun _=>_) (α:=Nat×List By) (fun κ=>1<=κ.1) (fun κ=>.slice (some ⟨K,0,some 0⟩) 1 κ.1) [⟨i1,ndP s0,ndP s0,ndP s0⟩,⟨i2,_,jk2 [x0] cp,noC⟩,⟨i3,_,jl6 far,noC⟩,⟨i4,memC W B,memC W B,memC W B⟩] (fun κ=>[ndP s1,noC,noC,memC W κ.2]) (fun κ=>[⟨K,9,ouR [z] κ.1⟩]) [xd 0,.slice (some ⟨1,0,some 0⟩) 1 cp,.int .i64 late,.int .i64 fine,xd 2] tysOK mixed func18 Q8I (call18) ⟨h1,h2,h3,h4,xb⟩ Q7a (fun κ _=>Q7a) (qb3 hne) Q7s Q7t Q7n Opens.same ?_
 ·exact Q3c
 obtain⟨oi,oinfo⟩:=qkm
 rintro⟨⟩ -
 repeat' (refine Bb ?_;first|refine Q55 ?_|refine Bu 2 ?_|refine Q63 ?_|refine Q5e ?_|fail)
 refine Bb ?_
 refine Bl Q7Z fun v ms hR=>?_
 obtain⟨e0,he0,hc0,rfl,rfl⟩:=hR
 repeat' (refine Bb ?_;first|refine Q55 ?_|refine Q5d ?_|fail)
 refine Bb ?_
 refine Bl Q6R fun v ms hR=>?_
 rw[hr0] at hR
 obtain⟨κ0,hκ0,rfl,rfl⟩:=hR
 repeat' (refine Bb ?_;first|refine Q55 ?_|refine Q5d ?_|fail)
 refine Bb ?_
 refine qfu (ouV z) Q7Q Q8H Q8H Q8H fun κ hκ=>?_
 repeat' (refine Bb ?_;first|refine Q55 ?_|refine Q5d ?_|fail)
 refine Bb ?_
 refine Bq ?_
 refine Bo (κ,e0::B) ⟨hκ,?_⟩
 refine Ba Q78 ?_
 refine Ba Q6J ?_
 refine Ba Q7w ?_
 refine Ba ⟨Q7q,.inl rfl,xb⟩ ?_
 exact Bg
theorem q1j (W:World) (B:List By) (x0 x1:Ou) (s0 s1 s2:NSt) (cp:Nat) (hcp:2<=cp) (far late fine:Int) (hx0:jfa x0) (ok0:NdH s0) (hx1:jfa x1) (ok1:NdH s1) (c0 c1:Int) (z:Ou) (hr0:jd1 s0 (encF x0.f) (atP x0 far) late fine=⟨s1,none,c0⟩) (hr1:jd1 s1 (encF x1.f) (atP x1 far) late fine=⟨s2,some z,c1⟩) (i1 i2 i3 i4 K:Nat) (h:Hp) (h1:h[i1]?=some (some (ndP s0))) (h2:h[i2]?=some (some (ouR [x0,x1] cp))) (h3:h[i3]?=some (some (jl5 far))) (h4:h[i4]?=some (some (memC W B))) (hK:h[K]?=some none) (hne:[i1,i2,i3,i4].Nodup) :
  CallAll prog 18 [xd i1,.slice (some ⟨i2,0,some 0⟩) 2 cp,xc late,xc fine,xd i3] h (fun v ms=>∃ (κ:Nat) (B':List By),1<=κ/\v=.slice (some ⟨K,0,some 0⟩) 1 κ/\ms=[(i1,ndP s2),(i4,memC W B'),(K,ouR [z] κ)]):=by
 have key:=qaw (G:=tys) (h:=h) (vs:=[xd i1,.slice (some ⟨i2,0,some 0⟩) 2 cp,.int .i64 late,.int .i64 fine,xd i3]) (fun _:Unit=>True) (fun _=>_) (α:=Nat×List By) (fun κ=>1<=κ.1) (fun κ=>.slice (some ⟨K,0,some 0⟩) 1 κ.1) [⟨i1,ndP s0,ndP s0,ndP s0⟩,⟨i2,_,jk2 [x0,x1] cp,noC⟩,⟨i3,_,jl6 far,noC⟩,⟨i4,memC W B,memC W B,memC W B⟩] (fun κ=>[ndP s2,noC,noC,memC W κ.2]) (fun κ=>[⟨K,10,ouR [z] κ.1⟩]) [xd 0,.slice (some ⟨1,0,some 0⟩) 2 cp,.int .i64 late,.int .i64 fine,xd 2] tysOK mixed func18 Q8I (call18) ⟨h1,h2,h3,h4,xb⟩ Q7a (fun κ _=>Q7a) (qb3 hne) Q7s Q7t Q7n Opens.same ?_
 ·exact Q3c
 obtain⟨oi,oinfo⟩:=qkm
 rintro⟨⟩ -
 repeat' (refine Bb ?_;first|refine Q55 ?_|refine Bu 3 ?_|refine Q63 ?_|refine Q5e ?_|fail)
 refine Bb ?_
 refine Bl Q7Z fun v ms hR=>?_
 obtain⟨e0,he0,hc0,rfl,rfl⟩:=hR
 repeat' (refine Bb ?_;first|refine Q55 ?_|refine Q5d ?_|fail)
 refine Bb ?_
 refine Bl Q6R fun v ms hR=>?_
 rw[hr0] at hR
 obtain⟨rfl,rfl⟩:=hR
 repeat' (refine Bb ?_;first|refine Q55 ?_|refine Q5e ?_|refine Q5d ?_|refine Q6a ?_|fail)
 repeat' (refine Bb ?_;first|refine Q55 ?_|refine Q5E ?_|refine Q5d ?_|fail)
 refine Bb ?_
 refine Bl (qf4 W (e0::B) x1.f hx1.1 hx1.2 3 _ Q8I) fun v ms hR=>?_
 obtain⟨e1,he1,hc1,rfl,rfl⟩:=hR
 repeat' (refine Bb ?_;first|refine Q55 ?_|refine Q5E ?_|refine Q5d ?_|fail)
 refine Bb ?_
 refine Bl Q7G fun v ms hR=>?_
 rw[hr1] at hR
 obtain⟨κ0,hκ0,rfl,rfl⟩:=hR
 repeat' (refine Bb ?_;first|refine Q55 ?_|refine Q5E ?_|refine Q5d ?_|fail)
 refine Bb ?_
 refine qfu (ouV z) Q7Q Q8H Q8H Q8H fun κ hκ=>?_
 repeat' (refine Bb ?_;first|refine Q55 ?_|refine Q5E ?_|refine Q5d ?_|fail)
 refine Bb ?_
 refine Bq ?_
 refine Bo (κ,e1::e0::B) ⟨hκ,?_⟩
 refine Ba Q78 ?_
 refine Ba Q6J ?_
 refine Ba Q7w ?_
 refine Ba ⟨Q7q,.inl rfl,xb⟩ ?_
 exact Bg
theorem q1k (W:World) (B:List By) (x0 x1 x2:Ou) (s0 s1 s2 s3:NSt) (cp:Nat) (hcp:3<=cp) (far late fine:Int) (hx0:jfa x0) (ok0:NdH s0) (hx1:jfa x1) (ok1:NdH s1) (hx2:jfa x2) (ok2:NdH s2) (c0 c1 c2:Int) (z:Ou) (hr0:jd1 s0 (encF x0.f) (atP x0 far) late fine=⟨s1,none,c0⟩) (hr1:jd1 s1 (encF x1.f) (atP x1 far) late fine=⟨s2,none,c1⟩) (hr2:jd1 s2 (encF x2.f) (atP x2 far) late fine=⟨s3,some z,c2⟩) (i1 i2 i3 i4 K:Nat) (h:Hp) (h1:h[i1]?=some (some (ndP s0))) (h2:h[i2]?=some (some (ouR [x0,x1,x2] cp))) (h3:h[i3]?=some (some (jl5 far))) (h4:h[i4]?=some (some (memC W B))) (hK:h[K]?=some none) (hne:[i1,i2,i3,i4].Nodup) :
  CallAll prog 18 [xd i1,.slice (some ⟨i2,0,some 0⟩) 3 cp,xc late,xc fine,xd i3] h (fun v ms=>∃ (κ:Nat) (B':List By),1<=κ/\v=.slice (some ⟨K,0,some 0⟩) 1 κ/\ms=[(i1,ndP s3),(i4,memC W B'),(K,ouR [z] κ)]):=by
 have key:=qaw (G:=tys) (h:=h) (vs:=[xd i1,.slice (some ⟨i2,0,some 0⟩) 3 cp,.int .i64 late,.int .i64 fine,xd i3]) (fun _:Unit=>True) (fun _=>_) (α:=Nat×List By) (fun κ=>1<=κ.1) (fun κ=>.slice (some ⟨K,0,some 0⟩) 1 κ.1) [⟨i1,ndP s0,ndP s0,ndP s0⟩,⟨i2,_,jk2 [x0,x1,x2] cp,noC⟩,⟨i3,_,jl6 far,noC⟩,⟨i4,memC W B,memC W B,memC W B⟩] (fun κ=>[ndP s3,noC,noC,memC W κ.2]) (fun κ=>[⟨K,11,ouR [z] κ.1⟩]) [xd 0,.slice (some ⟨1,0,some 0⟩) 3 cp,.int .i64 late,.int .i64 fine,xd 2] tysOK mixed func18 Q8I (call18) ⟨h1,h2,h3,h4,xb⟩ Q7a (fun κ _=>Q7a) (qb3 hne) Q7s Q7t Q7n Opens.same ?_
 ·exact Q3c
 obtain⟨oi,oinfo⟩:=qkm
 rintro⟨⟩ -
 repeat' (refine Bb ?_;first|refine Q55 ?_|refine Bu 4 ?_|refine Q63 ?_|refine Q5e ?_|fail)
 refine Bb ?_
 refine Bl Q7Z fun v ms hR=>?_
 obtain⟨e0,he0,hc0,rfl,rfl⟩:=hR
 repeat' (refine Bb ?_;first|refine Q55 ?_|refine Q5d ?_|fail)
 refine Bb ?_
 refine Bl Q6R fun v ms hR=>?_
 rw[hr0] at hR
 obtain⟨rfl,rfl⟩:=hR
 repeat' (refine Bb ?_;first|refine Q55 ?_|refine Q5e ?_|refine Q5d ?_|refine Q6a ?_|fail)
 repeat' (refine Bb ?_;first|refine Q55 ?_|refine Q5E ?_|refine Q5d ?_|fail)
 refine Bb ?_
 refine Bl (qf4 W (e0::B) x1.f hx1.1 hx1.2 3 _ Q8I) fun v ms hR=>?_
 obtain⟨e1,he1,hc1,rfl,rfl⟩:=hR
 repeat' (refine Bb ?_;first|refine Q55 ?_|refine Q5E ?_|refine Q5d ?_|fail)
 refine Bb ?_
 refine Bl Q7G fun v ms hR=>?_
 rw[hr1] at hR
 obtain⟨rfl,rfl⟩:=hR
 repeat' (refine Bb ?_;first|refine Q55 ?_|refine Q5e ?_|refine Q6a ?_|fail)
 repeat' (refine Bb ?_;first|refine Q55 ?_|refine Q62 ?_|refine Q5d ?_|fail)
 refine Bb ?_
 refine Bl (qf4 W (e1::e0::B) x2.f hx2.1 hx2.2 3 _ Q8I) fun v ms hR=>?_
 obtain⟨e2,he2,hc2,rfl,rfl⟩:=hR
 repeat' (refine Bb ?_;first|refine Q55 ?_|refine Q62 ?_|refine Q5d ?_|fail)
 refine Bb ?_
 refine Bl (ql4 W (e2::e1::e0::B) s2 e2.s (encF x2.f) (qh4 he2) (ql6 x2.f) (By.cap_ok hc2) ok2 (atP x2 far) late fine 0 3 10 Q8H _ Q8I Q8I Q8I) fun v ms hR=>?_
 rw[hr2] at hR
 obtain⟨κ0,hκ0,rfl,rfl⟩:=hR
 repeat' (refine Bb ?_;first|refine Q55 ?_|refine Q62 ?_|refine Q5d ?_|fail)
 refine Bb ?_
 refine qfu (ouV z) Q7Q Q8H Q8H Q8H fun κ hκ=>?_
 repeat' (refine Bb ?_;first|refine Q55 ?_|refine Q62 ?_|refine Q5d ?_|fail)
 refine Bb ?_
 refine Bq ?_
 refine Bo (κ,e2::e1::e0::B) ⟨hκ,?_⟩
 refine Ba Q78 ?_
 refine Ba Q6J ?_
 refine Ba Q7w ?_
 refine Ba ⟨Q7q,.inl rfl,xb⟩ ?_
 exact Bg
structure NxS where
 least:Int
 next:Int
 any:Bool
 behind:Bool
def NxS.step (after:Int) (s:NxS) (n:Int):NxS:=
 let a:NxS:=if s.any=false\/n<s.least then ⟨n,s.next,true,s.behind⟩ else s
 if after<n/\(a.behind=false\/n<a.next) then ⟨a.least,n,a.any,true⟩ else a
def nxF (after:Int) (l:List Int):NxS:=l.foldl (NxS.step after) ⟨0,0,false,false⟩
def jeq (after:Int) (l:List Int):Int×Bool:=if (nxF after l).behind then ((nxF after l).next,true) else ((nxF after l).least,(nxF after l).any)
theorem q1l (after:Int) (l:List Int) (cap:Nat) (c:Chunk) (hc:∀ j,j<l.length->c.f j=xc (l.getD j 0)) (hn:l.length<=c.n) (hl:l.length<=1000) (k:Nat) (h:Hp) (hk:h[k]?=some (some c)) :
  qaf prog 74 [.slice (some ⟨k,0,some 0⟩) l.length cap,xc after] h (.tuple #[xc (jeq after l).1,.bool (jeq after l).2]) [] [k]:=by
 refine qal (G:=tys) [⟨k,_,⟨false,l.length,[(0,l.length,.agg ⟨segL l.length (fun j=>xc (l.getD j 0))⟩)]⟩,⟨false,0,[]⟩⟩] [] [.slice (some ⟨0,0,some 0⟩) l.length cap,xc after] tysOK mixed func74 Q8I (call74) ⟨hk,xb⟩ ⟨⟨fun h=>Q95,hn,fun j hj=>?_⟩,xb⟩ Q8N xb ⟨.slice rfl,.plain rfl,xb⟩ ?_
 ·show Re1 _ _ (qa3 [(0,l.length,_)] j);rw[hc j hj,qam,if_pos (by have:j<l.length:=hj;omega),show j-0=j from rfl];rw[show cellIn (.agg ⟨segL l.length (fun j=>xc (l.getD j 0))⟩) j=xc (l.getD j 0) from qh9 hj];exact .plain rfl
 repeat' (refine Bb ?_;first|refine Q55 ?_|fail)
 refine Bb ?_
 refine Bt (α:=Nat) (fun j=>j<=l.length) (fun j=>l.length-j) (fun j=>[(6,xc (nxF after (l.take j)).least),(7,xc (nxF after (l.take j)).next),(8,.bool (nxF after (l.take j)).any),(9,.bool (nxF after (l.take j)).behind),(14,xc (j:Int))]) (fun j=>[]) 0 (xm _) ?_ ?_
 ·repeat' (refine Bb ?_;first|refine Q55 ?_|exact Bg|refine Ba (ChunkLe.refl _) ?_|fail)
 intro j hj
 have hj:j<=l.length:=hj
 by_cases hlt:j<l.length
 ·have st:nxF after (l.take (j+1))=NxS.step after (nxF after (l.take j)) (l.getD j 0):=by
   unfold nxF;rw[List.take_add_one,xr hlt,Option.toList_some,List.foldl_append,xD,xr hlt];rfl
  have ek:((j+1:Nat):Int)=IntKind.i64.wrap ((j:Int)+1):=by rw[jdx _ Q8G Q8G];rfl
  generalize nxF after (l.take j)=S at st;generalize hv:l.getD j 0=v at st;obtain⟨le,ne,an,be⟩:=S;have rd:Reads ⟨false,l.length,[(0,l.length,.agg ⟨segL l.length (fun j=>xc (l.getD j 0))⟩)]⟩ j false 1 (xc v):=qvy hlt rfl (by rw[hv]);cases an<;>cases be<;>by_cases h1:v<le<;>by_cases h2:after<v<;>by_cases h3:v<ne
  all_goals
   simp only[NxS.step,h1,h2,h3,true_and,false_and,and_true,and_false,or_true,true_or,or_false,false_or,if_true,if_false,Bool.true_eq_false,reduceCtorEq] at st
   repeat' (refine Bb ?_;first|refine Q55 ?_|refine Q5p ?_|refine Q5l ?_|refine Bm j 1 rfl Q8G ?_|refine Bn _ rd ?_|refine Bf Q8I ?_|refine Be Q8I ?_|fail)
   refine Bb ?_
   refine N.next (α:=Nat) (j+1) ⟨by show j+1<=l.length;omega,by show l.length-(j+1)<l.length-j;omega⟩ ?_
   rw[st]
   repeat' (refine Bb ?_;first|refine Q55 ?_|exact Bg|refine Ba (congrArg (Value.int .i64) ek.symm) ?_|refine Ba (ChunkLe.refl _) ?_|fail)
 ·obtain rfl:j=l.length:=by omega
  rw[List.take_length];by_cases hb:(nxF after l).behind=true
  ·rw[show jeq after l=((nxF after l).next,true) from if_pos hb];exact Q1T
  ·rw[show jeq after l=((nxF after l).least,(nxF after l).any) from if_neg hb];have hb:(nxF after l).behind=false:=by simpa using hb
   exact Q1T
open Go Go.RowKit Sx
abbrev jhw (o:Bool) (E:Ez) (cap:Nat):Chunk:=enC o cap (fun i=>if i<E.length then entT E i else Ent.zero)
variable {E:Ez} {cap:Nat}
theorem qjq {o:Bool} {r p m:Nat} (hr:r<E.length) (hc:E.length<=cap) (hm:m=10) (hp:p=r*10):Reads (jhw o E cap) p true m (entV (entT E r)):=by
 have h:=jit (o:=o) (c:=cap) (T:=fun i=>if i<E.length then entT E i else Ent.zero) r hm Q8G hp;simp only[if_pos hr] at h;exact h
theorem q1m {o o':Bool}:qbb ix (jhw o E cap) (jhw o' E cap):=qt2 fun _ _=>rfl
theorem qdk {o:Bool}:ChunkReLe ix (jhw o E cap) (jhw o E cap):=⟨id,nlr _,q1m⟩
def jht (E:Ez) (p:Ent->Bool):List Int:=evL E p E.length
def jo6 (E:Ez) (p:Ent->Bool):EvS->Prop
 | .no r=>r<=E.length/\evL E p r=[]
 | .yes r c=>r<=E.length/\0<(evL E p r).length/\(evL E p r).length<=c
@[reducible] def teSet (E:Ez) (p:Ent->Bool):EvS->Vz
 | .no r=>[(11,.int .i64 (r:Int)),(6,.slice none 0 0)]
 | .yes r c=>[(11,.int .i64 (r:Int)),(6,.slice (some ⟨1,0,some 0⟩) (evL E p r).length c)]
@[reducible] def teHs (E:Ez) (p:Ent->Bool):EvS->Mz
 | .no r=>[]
 | .yes r c=>[(1,rl (evL E p r) c)]
theorem q1n {S:List Int} (h:S.length<=c):∀ j,j<S.length->(rl S c).f j=xc (S.getD j 0):=fun j hj=>by
 rw[jko Q8G,Nat.div_one];unfold je3;rfl
theorem q5a (a:Int):jeq a []=(0,false):=rfl
theorem qrm (E:Ez) (cap:Nat) (after:Int) (hE:0<E.length/\E.length<=64) (hce:E.length<=cap) (k:Nat) (h:Hp) (hk:h[k]?=some (some (jhw true E cap))) :
  qaf prog 72 [.slice (some ⟨k,0,some 0⟩) E.length cap,xc after] h (.tuple #[xc (jeq after (jht E (·.has))).1,.bool (jeq after (jht E (·.has))).2]) [] [k]:=by
 refine qal (G:=tys) [⟨k,_,jhw false E cap,⟨false,0,[]⟩⟩] [] [.slice (some ⟨0,0,some 0⟩) E.length cap,xc after] tysOK mixed func72 Q8I (call72) ⟨hk,xb⟩ ⟨⟨fun h=>Q95,nlr _,q1m⟩,xb⟩ Q8N xb ⟨.slice rfl,.plain rfl,xb⟩ ?_
 generalize hp:(fun e:Ent=>e.has)=p
 repeat' (refine Bb ?_;first|refine Q55 ?_|fail)
 refine Bb ?_
 refine Bw (α:=EvS) (jo6 E p) (fun s=>E.length-s.r) (teSet E p) (teHs E p) (.no 0) [(0,0)] ⟨xm _,rfl⟩ ?_ ?_
 ·repeat' (refine Bb ?_;first|refine Q55 ?_|exact Bg|refine Q5q ?_|refine Q68 ?_|refine Ba qdk ?_|fail)
 intro s hs
 have hr:s.r<=E.length:=by cases s<;>exact hs.1
 by_cases hlt:s.r<E.length
 ·cases s with
  | no r=>
   obtain⟨r1,r2⟩:=hs;have hlt:r<E.length:=hlt;have r2:evL E p r=[]:=r2;refine Q0X ?_;repeat' (refine Bb ?_;first|refine Q55 ?_|fail)
   rcases qcv (entT E r).has with hh|hh
   ·have hpp:p (entT E r)≠true:=by rw[<-hp];show(entT E r).has≠true;rw[hh];decide
    have e1:evL E p (r+1)=evL E p r:=if_neg hpp;refine Q2D ?_;refine Br (α:=EvS) (.no (r+1)) [(0,0)] (And.intro ⟨hlt,by show evL E p (r+1)=[];rw[e1,r2]⟩ Q9g) ?_;exact Q1A
   ·have hpp:p (entT E r)=true:=by rw[<-hp];exact hh
    have e1:evL E p (r+1)=evL E p r++[(entT E r).node]:=if_pos hpp;refine Q2C ?_;refine qfu (.agg #[xc (entT E r).node]) Q7z Q8H Q8H Q8H fun cap hcap=>?_
    refine Q01 ?_;rw[r2] at e1;refine Br (α:=EvS) (.yes (r+1) cap) [(0,0),(3,1)] (And.intro ⟨hlt,by show 0<(evL E p (r+1)).length;rw[e1];exact nlr _,by show(evL E p (r+1)).length<=cap;rw[e1];exact hcap⟩ Q9g) ?_;repeat' (refine Bb ?_;first|refine Q55 ?_|refine Ba Q6H ?_|refine Ba (qdo (by show(evL E p (r+1)).length=_;rw[e1];rfl) Q8I) ?_|refine Ba (qi4 e1 hcap) ?_|exact Bg|refine Q5q ?_|refine Q68 ?_|refine Ba qdk ?_|fail)
  | yes r c=>
   obtain⟨r1,r2,r3⟩:=hs;have hlt:r<E.length:=hlt;have r2:0<(evL E p r).length:=r2;have r3:(evL E p r).length<=c:=r3;have r4:=qi3 E p r;refine Q0X ?_;repeat' (refine Bb ?_;first|refine Q55 ?_|fail)
   rcases qcv (entT E r).has with hh|hh
   ·have hpp:p (entT E r)≠true:=by rw[<-hp];show(entT E r).has≠true;rw[hh];decide
    have e1:evL E p (r+1)=evL E p r:=if_neg hpp;refine Q2D ?_;refine Br (α:=EvS) (.yes (r+1) c) [(0,0),(1,1)] (And.intro ⟨hlt,by show 0<(evL E p (r+1)).length;rw[e1];exact r2,by show(evL E p (r+1)).length<=c;rw[e1];exact r3⟩ Q9g) ?_;exact Q1A
   ·have hpp:p (entT E r)=true:=by rw[<-hp];exact hh
    have e1:evL E p (r+1)=evL E p r++[(entT E r).node]:=if_pos hpp;refine Q2C ?_;refine qk8 (.agg #[xc (entT E r).node]) Q7z Q8I (by show _*1<=c*1;omega) Q8G Qaf (riC true c (setri (fun i=>(evL E p r).getD i 0) (evL E p r).length (entT E r).node)) (fun h=>jkp Q8G rfl) (fun hr=>?_) (fun hg2 cap hcap=>?_)
    ·refine Q01 ?_;refine Br (α:=EvS) (.yes (r+1) c) [(0,0),(1,1)] (And.intro ⟨hlt,by show 0<(evL E p (r+1)).length;rw[e1,xt];exact zw _ _,by show(evL E p (r+1)).length<=c;rw[e1,xt];exact hr⟩ Q9g) ?_;repeat' (refine Bb ?_;first|refine Q55 ?_|refine Ba Q6H ?_|refine Ba Q8B ?_|refine Ba (qor e1) ?_|exact Bg|refine Q5q ?_|refine Q68 ?_|refine Ba qdk ?_|fail)
    ·refine Q01 ?_;refine Br (α:=EvS) (.yes (r+1) cap) [(0,0),(4,1)] (And.intro ⟨hlt,by show 0<(evL E p (r+1)).length;rw[e1,xt];exact zw _ _,by show(evL E p (r+1)).length<=cap;rw[e1,xt];exact hcap⟩ Q9g) ?_;repeat' (refine Bb ?_;first|refine Q55 ?_|refine Ba Q6H ?_|refine Ba Q8B ?_|refine Ba (qki e1 hcap r3) ?_|exact Bg|refine Q5q ?_|refine Q68 ?_|refine Ba qdk ?_|fail)
 ·cases s with
  | no r=>
   obtain⟨r1,r2⟩:=hs;have hlt:¬ r<E.length:=hlt;obtain rfl:r=E.length:=by omega
   have e0:jht E p=[]:=r2;rw[e0,q5a];refine Q3r ?_;refine Q01 ?_;refine Bc (qok _ _) ?_;exact Q2h
  | yes r c=>
   obtain⟨r1,r2,r3⟩:=hs;have hlt:¬ r<E.length:=hlt;obtain rfl:r=E.length:=by omega
   refine Q3r ?_;refine Q01 ?_;refine Bc (q1l after (evL E p E.length) c _ (q1n r3) (by show _<=c*1;omega) (by have:=qi3 E p E.length;omega) 1 _ Q8I) ?_;exact Q2h
end Go.Proofs.YtfkngpmgcimdbaaGreat
