/-
  The walk of NodeRefuses.
-/
import Derived.Test.YtfkngpmgcimdbaaGreatR10
set_option linter.unusedVariables false
set_option linter.unusedSimpArgs false
set_option maxRecDepth 100000
set_option maxHeartbeats 20000000
open Go.Proofs.Tryz
namespace Go.Proofs
section
variable{Z Y:Prop}
theorem Q00(h:Z:=by repeat' (refine Ba ?_;first|refine Q4Z ?_|exact Be|refine Q56 ?_|fail)):Z:=h
theorem Q0g(k:Y)(h:Wr Y->Z:=by
 intro kQ;repeat' (refine Ba ?_;first|refine Q4Z ?_|refine Q5d ?_|refine Q5m ?_|refine Q6e ?_|refine Q5O ?_|fail)
 refine Ba ?_;exact kQ.o):Z:=h ⟨k⟩
theorem Q0h(k:Y)(h:Wr Y->Z:=by
 intro kQ;repeat' (refine Ba ?_;first|refine Q4Z ?_|refine Q5d ?_|refine Q5m ?_|refine Bb (qaw W F3 u1 bs1 m1 x2 x3 0 _ Q8F) ?_|refine Q5O ?_|fail)
 refine Ba ?_;exact kQ.o):Z:=h ⟨k⟩
theorem Q0i(k:Y)(h:Wr Y->Z:=by
 intro kQ;repeat' (refine Ba ?_;first|refine Q4Z ?_|refine Q5d ?_|refine Q5m ?_|refine Bb (qaw W F3 u2 bs2 m2 y2 y3 0 _ Q8F) ?_|refine Q5O ?_|fail)
 refine Ba ?_;exact kQ.o):Z:=h ⟨k⟩
theorem Q0j(k:Y)(h:Wr Y->Z:=by
 intro kQ;repeat' (refine Ba ?_;first|refine Q4Z ?_|refine Q5d ?_|refine Q5m ?_|refine Bb (qaw W F3 u3 bs3 z1 z2 z3 0 _ Q8F) ?_|refine Q5O ?_|fail)
 refine Ba ?_;exact kQ.o):Z:=h ⟨k⟩
theorem Q0l(k:Y)(h:Wr Y->Z:=by
 intro kQ;repeat' (refine Ba ?_;first|refine Q4Z ?_|refine Q5d ?_|refine Q5m ?_|fail)
 refine Ba ?_;exact kQ.o):Z:=h ⟨k⟩
theorem Q0m(h:Z:=by
 obtain rfl:k=4:=by omega
 have ej2:(100:Int)+((q.n+1:Nat):Int)=IntKind.i64.wrap (100+(q.n:Int)+1):=by rw[jep (100+(q.n:Int)+1) Q8E Q8E];omega
 have hE2:s.T.E.length<=64:=by have:=p2.T.ok.len;have:=p2.T.ok.most;omega
 by_cases hraw:(decF rw_).2=0
 .exact Q1S
 obtain⟨hfi,hTE,_⟩:=p6 hraw;obtain⟨f1,f2,f3,f4,f5,f6⟩:=jmc hfi;refine Q2l ?_;refine Bh (qho s hE2 4 3 _ Q8F Q8F) λv ms hR=>?_
 unfold jpj at hR;rw[hTE,f1,f2,f3,f4,f5,f6] at hR;rcases hR with ⟨hE3,rfl,rfl⟩|⟨cap2,hl2,hc2,rfl,rfl⟩
 .rw[hE3] at hl1;exact absurd hl1 (xX _)
 repeat' (refine Ba ?_;first|refine Q4Z ?_|refine Q5d ?_|refine Bf (bne_self_eq_false _) ?_|refine Br _ (qhp _ _ _ _ _ _ _) ?_|refine Bb (q6l cap2 cap1 r1.s.T.E.length _ _ hc2 hc1 Q8E (λ_ _=>rfl) 3 2 Q8I _ Q8F Q8F) ?_|fail)
 exact Q1b):Z:=h
theorem Q0n(h:Z:=by
 obtain rfl:k=4:=by omega
 have ej2:(100:Int)+((q.n+1:Nat):Int)=IntKind.i64.wrap (100+(q.n:Int)+1):=by rw[jep (100+(q.n:Int)+1) Q8E Q8E];omega
 have hE2:s.T.E.length<=64:=by have:=p2.T.ok.len;have:=p2.T.ok.most;omega
 by_cases hraw:(decF rw_).2=0
 .exact Q1S
 obtain⟨hfi,hTE,_⟩:=p6 hraw;obtain⟨f1,f2,f3,f4,f5,f6⟩:=jmc hfi;refine Q2l ?_;refine Bh (qho s hE2 4 3 _ Q8F Q8F) λv ms hR=>?_
 unfold jpj at hR;rw[hTE,f1,f2,f3,f4,f5,f6] at hR;rcases hR with ⟨hE3,rfl,rfl⟩|⟨cap2,hl2,hc2,rfl,rfl⟩
 rotate_left
 .rw[hE0] at hl2;exact absurd hl2 (xX _)
 repeat' (refine Ba ?_;first|refine Q4Z ?_|refine Q5d ?_|refine Bf (bne_self_eq_false _) ?_|refine Br _ (qhp _ _ _ _ _ _ _) ?_|refine Bb (qrp _) ?_|fail)
 exact Q1b):Z:=h
theorem Q0L(h:Z:=by
 refine Classical.byContradiction λhn=>?_
 refine qa7 (s:=s) (bs:=rw_) (at_:=c.at_) (now:=(100+(q.n:Int))) (fine:=6) hC4 ?_ Q9K;rw[p3];by_cases a1:(decF rw_).2=0
 .by_cases a2:(decF rw_).1.s=2
  .exact .inr (.inl a2)
  .by_cases a3:(100+(q.n:Int))+2<(decF rw_).1.st
   .exact .inr (.inr a3)
   .exact absurd ⟨a1,a2,a3⟩ hn
 .exact .inl a1):Z:=h
theorem Q0M(h:Z:=by
 refine Classical.byContradiction λhn=>?_
 refine qa7 (s:=s) (bs:=bs1) (at_:=c.at_) (now:=(100+(q.n:Int))) (fine:=6) hC4 ?_ Q9K;rw[p3];by_cases a1:(decF bs1).2=0
 .by_cases a2:(decF bs1).1.s=2
  .exact .inr (.inl a2)
  .by_cases a3:(100+(q.n:Int))+2<(decF bs1).1.st
   .exact .inr (.inr a3)
   .exact absurd ⟨a1,a2,a3⟩ hn
 .exact .inl a1):Z:=h
theorem Q0N(h:Z:=by
 refine Classical.byContradiction λhn=>?_
 refine qa7 (s:=s) (bs:=bs2) (at_:=c.at_) (now:=(100+(q.n:Int))) (fine:=6) hC4 ?_ Q9K;rw[p3];by_cases a1:(decF bs2).2=0
 .by_cases a2:(decF bs2).1.s=2
  .exact .inr (.inl a2)
  .by_cases a3:(100+(q.n:Int))+2<(decF bs2).1.st
   .exact .inr (.inr a3)
   .exact absurd ⟨a1,a2,a3⟩ hn
 .exact .inl a1):Z:=h
theorem Q0O(h:Z:=by
 refine Classical.byContradiction λhn=>?_
 refine qa7 (s:=s) (bs:=bs3) (at_:=c.at_) (now:=(100+(q.n:Int))) (fine:=6) hC4 ?_ Q9K;rw[p3];by_cases a1:(decF bs3).2=0
 .by_cases a2:(decF bs3).1.s=2
  .exact .inr (.inl a2)
  .by_cases a3:(100+(q.n:Int))+2<(decF bs3).1.st
   .exact .inr (.inr a3)
   .exact absurd ⟨a1,a2,a3⟩ hn
 .exact .inl a1):Z:=h
theorem Q0X(k:Y)(h:Wr Y->Z:=by
 intro kQ;repeat' (refine Ba ?_;first|refine Q4Z ?_|refine Q5m ?_|refine Q62 ?_|fail)
 refine Ba ?_;exact kQ.o):Z:=h ⟨k⟩
theorem Q14(k:Y)(h:Wr Y->Z:=by
 intro kQ;repeat' (refine Ba ?_;first|refine Q4Z ?_|refine Q5m ?_|refine Bj 1 0 Q8I Q8I ?_|fail)
 refine Ba ?_;exact kQ.o):Z:=h ⟨k⟩
theorem Q15(k:Y)(h:Wr Y->Z:=by
 intro kQ;repeat' (refine Ba ?_;first|refine Q4Z ?_|refine Q5m ?_|refine Bj 2 0 Q8I Q8I ?_|fail)
 refine Ba ?_;exact kQ.o):Z:=h ⟨k⟩
theorem Q16(k:Y)(h:Wr Y->Z:=by
 intro kQ;repeat' (refine Ba ?_;first|refine Q4Z ?_|refine Q5m ?_|refine Bj 3 0 Q8I Q8I ?_|fail)
 refine Ba ?_;exact kQ.o):Z:=h ⟨k⟩
theorem Q18(h:Z:=by repeat' (refine Ba ?_;first|refine Q4Z ?_|exact Be|refine Q5y ?_|fail)):Z:=h
theorem Q1b(h:Z:=by
 refine Ba ?_;refine Bk (α:=RQ) ⟨q.i+1,q.n+1,s,F3⟩ [(0,0),(4,4),(5,5)] ⟨⟨hi,by show q.i+1<=30;omega,by show q.n+1<=q.i+1;omega,p2,p3,?_,?_,p4⟩,by show n0-(q.i+1)<n0-q.i;omega⟩ ?_
 .exact hboot
 .have p5:s.seq<=q.s.seq+1+((4:Nat):Int):=p5;show s.seq<=5*((q.i+1:Nat):Int);omega
 repeat' (refine Ba ?_;first|refine Q4Z ?_|exact Be|refine Q5a ?_|refine Bc (qa9 (qa1 ej) rfl) ?_|refine Bc (qa9 (qa1 ej2) rfl) ?_|refine Bc Q8C ?_|fail)):Z:=h
theorem Q1x(h:Z:=by
 have h1:=hno h;rw[hr] at h1;obtain⟨_,h2,h3⟩:=qee h1;exact⟨by rw[hr,h2];exact(p6 h).1,by rw[hr,h3];exact(p6 h).2.1,λ_=>by rw[hr,qko h];exact(p6 h).2.2 (xn _)⟩):Z:=h
theorem Q1A(h:Z:=by
 have h1:=hno h;rw[hr] at h1;obtain⟨_,h2,h3⟩:=qee h1;exact⟨by rw[hr,h2];exact(p6 h).1,by rw[hr,h3];exact(p6 h).2.1,λh1=>absurd h1 (by show ¬ 2<=1;decide)⟩):Z:=h
theorem Q1B(h:Z:=by
 have h1:=hno h;rw[hr] at h1;obtain⟨_,h2,h3⟩:=qee h1;exact⟨by rw[hr,h2];exact(p6 h).1,by rw[hr,h3];exact(p6 h).2.1,λh1=>absurd h1 (by show ¬ 3<=1;decide)⟩):Z:=h
theorem Q1C(h:Z:=by
 have h1:=hno h;rw[hr] at h1;obtain⟨_,h2,h3⟩:=qee h1;exact⟨by rw[hr,h2];exact(p6 h).1,by rw[hr,h3];exact(p6 h).2.1,λh1=>absurd h1 (by show ¬ 4<=1;decide)⟩):Z:=h
theorem Q1S(h:Z:=by repeat' (refine Ba ?_;first|refine Q4Z ?_|refine Q5d ?_|refine Q6e ?_|refine Bg (kY hraw) ?_|refine Q6J ?_|exact N.endM3 F3 rfl rfl|fail)):Z:=h
theorem Q1T(h:Z:=by repeat' (refine Ba ?_;first|refine Q4Z ?_|refine Q5P ?_|refine Q6J ?_|exact N.endM3 [] rfl rfl|refine Bg (xf (by show _<_;omega)) ?_|fail)):Z:=h
theorem Q2c(h:Z:=by
 have h1:=jij age 1000 Q8I Q8I;rw[jep (100+(q.n:Int)+3) Q8E Q8E,jep _ Q8E Q8E];omega):Z:=h
theorem Q2h(h:Z:=by
 obtain⟨a1,a2,a3⟩:=hgood h0;rw[<-ew] at a3;refine Q0g ?_;refine Bk (α:=Nat×NSt) (1,r.s) [(0,0),(1,1),(2,2),(4,4),(5,5),(6,6),(11,11),(12,12)] ⟨⟨by show 1<=4;decide,g2,g3.id.trans p3,g3.boot.trans hboot,g3.C.trans p4,by show r.s.seq<=q.s.seq+1+((1:Nat):Int);omega,hnx⟩,by show 4-1<4-0;decide⟩ ?_;exact Q00):Z:=h
theorem Q2i(h:Z:=by
 obtain⟨a1,a2,a3⟩:=hgood h0;rw[<-ew] at a3;refine Q0h ?_;refine Bk (α:=Nat×NSt) (2,r.s) [(0,0),(1,1),(2,2),(4,4),(5,5),(6,6),(11,11),(12,12)] ⟨⟨by show 2<=4;decide,g2,g3.id.trans p3,g3.boot.trans hboot,g3.C.trans p4,by show r.s.seq<=q.s.seq+1+((2:Nat):Int);omega,hnx⟩,by show 4-2<4-1;decide⟩ ?_;exact Q00):Z:=h
theorem Q2j(h:Z:=by
 obtain⟨a1,a2,a3⟩:=hgood h0;rw[<-ew] at a3;refine Q0i ?_;refine Bk (α:=Nat×NSt) (3,r.s) [(0,0),(1,1),(2,2),(4,4),(5,5),(6,6),(11,11),(12,12)] ⟨⟨by show 3<=4;decide,g2,g3.id.trans p3,g3.boot.trans hboot,g3.C.trans p4,by show r.s.seq<=q.s.seq+1+((3:Nat):Int);omega,hnx⟩,by show 4-3<4-2;decide⟩ ?_;exact Q00):Z:=h
theorem Q2k(h:Z:=by
 obtain⟨a1,a2,a3⟩:=hgood h0;rw[<-ew] at a3;refine Q0j ?_;refine Bk (α:=Nat×NSt) (4,r.s) [(0,0),(1,1),(2,2),(4,4),(5,5),(6,6),(11,11),(12,12)] ⟨⟨by show 4<=4;decide,g2,g3.id.trans p3,g3.boot.trans hboot,g3.C.trans p4,by show r.s.seq<=q.s.seq+1+((4:Nat):Int);omega,hnx⟩,by show 4-4<4-3;decide⟩ ?_;exact Q00):Z:=h
theorem Q2l(k:Y)(h:Wr Y->Z:=by
 intro kQ;repeat' (refine Ba ?_;first|refine Q4Z ?_|refine Q5d ?_|refine Q6e ?_|refine Bf (kN hraw) ?_|fail)
 refine Ba ?_;exact kQ.o):Z:=h ⟨k⟩
theorem Q2n(h:Z:=by
 obtain⟨a1,a2,a3⟩:=hgood h0;rw[<-ew] at a3;refine Q0g ?_;refine Bk (α:=Nat×NSt) (1,r.s) [(0,0),(2,2),(4,4),(5,5),(6,6),(11,11),(12,12)] ⟨⟨by show 1<=4;decide,g2,g3.id.trans p3,g3.boot.trans hboot,g3.C.trans p4,by show r.s.seq<=q.s.seq+1+((1:Nat):Int);omega,hnx⟩,by show 4-1<4-0;decide⟩ ?_;exact Q00):Z:=h
theorem Q2o(h:Z:=by
 obtain⟨a1,a2,a3⟩:=hgood h0;rw[<-ew] at a3;refine Q0h ?_;refine Bk (α:=Nat×NSt) (2,r.s) [(0,0),(2,2),(4,4),(5,5),(6,6),(11,11),(12,12)] ⟨⟨by show 2<=4;decide,g2,g3.id.trans p3,g3.boot.trans hboot,g3.C.trans p4,by show r.s.seq<=q.s.seq+1+((2:Nat):Int);omega,hnx⟩,by show 4-2<4-1;decide⟩ ?_;exact Q00):Z:=h
theorem Q2p(h:Z:=by
 obtain⟨a1,a2,a3⟩:=hgood h0;rw[<-ew] at a3;refine Q0i ?_;refine Bk (α:=Nat×NSt) (3,r.s) [(0,0),(2,2),(4,4),(5,5),(6,6),(11,11),(12,12)] ⟨⟨by show 3<=4;decide,g2,g3.id.trans p3,g3.boot.trans hboot,g3.C.trans p4,by show r.s.seq<=q.s.seq+1+((3:Nat):Int);omega,hnx⟩,by show 4-3<4-2;decide⟩ ?_;exact Q00):Z:=h
theorem Q2q(h:Z:=by
 obtain⟨a1,a2,a3⟩:=hgood h0;rw[<-ew] at a3;refine Q0j ?_;refine Bk (α:=Nat×NSt) (4,r.s) [(0,0),(2,2),(4,4),(5,5),(6,6),(11,11),(12,12)] ⟨⟨by show 4<=4;decide,g2,g3.id.trans p3,g3.boot.trans hboot,g3.C.trans p4,by show r.s.seq<=q.s.seq+1+((4:Nat):Int);omega,hnx⟩,by show 4-4<4-3;decide⟩ ?_;exact Q00):Z:=h
theorem Q2r(h:Z:=by
 obtain⟨a1,a2,a3⟩:=hgood h0;rw[<-ew] at a3;refine Q0g ?_;refine Bk (α:=Nat×NSt) (1,r.s) [(0,0),(1,1),(4,4),(5,5),(6,6),(11,11),(12,12)] ⟨⟨by show 1<=4;decide,g2,g3.id.trans p3,g3.boot.trans hboot,g3.C.trans p4,by show r.s.seq<=q.s.seq+1+((1:Nat):Int);omega,hnx⟩,by show 4-1<4-0;decide⟩ ?_;exact Q00):Z:=h
theorem Q2s(h:Z:=by
 obtain⟨a1,a2,a3⟩:=hgood h0;rw[<-ew] at a3;refine Q0h ?_;refine Bk (α:=Nat×NSt) (2,r.s) [(0,0),(1,1),(4,4),(5,5),(6,6),(11,11),(12,12)] ⟨⟨by show 2<=4;decide,g2,g3.id.trans p3,g3.boot.trans hboot,g3.C.trans p4,by show r.s.seq<=q.s.seq+1+((2:Nat):Int);omega,hnx⟩,by show 4-2<4-1;decide⟩ ?_;exact Q00):Z:=h
theorem Q2t(h:Z:=by
 obtain⟨a1,a2,a3⟩:=hgood h0;rw[<-ew] at a3;refine Q0i ?_;refine Bk (α:=Nat×NSt) (3,r.s) [(0,0),(1,1),(4,4),(5,5),(6,6),(11,11),(12,12)] ⟨⟨by show 3<=4;decide,g2,g3.id.trans p3,g3.boot.trans hboot,g3.C.trans p4,by show r.s.seq<=q.s.seq+1+((3:Nat):Int);omega,hnx⟩,by show 4-3<4-2;decide⟩ ?_;exact Q00):Z:=h
theorem Q2u(h:Z:=by
 obtain⟨a1,a2,a3⟩:=hgood h0;rw[<-ew] at a3;refine Q0j ?_;refine Bk (α:=Nat×NSt) (4,r.s) [(0,0),(1,1),(4,4),(5,5),(6,6),(11,11),(12,12)] ⟨⟨by show 4<=4;decide,g2,g3.id.trans p3,g3.boot.trans hboot,g3.C.trans p4,by show r.s.seq<=q.s.seq+1+((4:Nat):Int);omega,hnx⟩,by show 4-4<4-3;decide⟩ ?_;exact Q00):Z:=h
theorem Q2v(h:Z:=by
 obtain⟨a1,a2,a3⟩:=hgood h0;rw[<-ew] at a3;refine Q0g ?_;refine Bk (α:=Nat×NSt) (1,r.s) [(0,0),(4,4),(5,5),(6,6),(11,11),(12,12)] ⟨⟨by show 1<=4;decide,g2,g3.id.trans p3,g3.boot.trans hboot,g3.C.trans p4,by show r.s.seq<=q.s.seq+1+((1:Nat):Int);omega,hnx⟩,by show 4-1<4-0;decide⟩ ?_;exact Q00):Z:=h
theorem Q2w(h:Z:=by
 obtain⟨a1,a2,a3⟩:=hgood h0;rw[<-ew] at a3;refine Q0h ?_;refine Bk (α:=Nat×NSt) (2,r.s) [(0,0),(4,4),(5,5),(6,6),(11,11),(12,12)] ⟨⟨by show 2<=4;decide,g2,g3.id.trans p3,g3.boot.trans hboot,g3.C.trans p4,by show r.s.seq<=q.s.seq+1+((2:Nat):Int);omega,hnx⟩,by show 4-2<4-1;decide⟩ ?_;exact Q00):Z:=h
theorem Q2x(h:Z:=by
 obtain⟨a1,a2,a3⟩:=hgood h0;rw[<-ew] at a3;refine Q0i ?_;refine Bk (α:=Nat×NSt) (3,r.s) [(0,0),(4,4),(5,5),(6,6),(11,11),(12,12)] ⟨⟨by show 3<=4;decide,g2,g3.id.trans p3,g3.boot.trans hboot,g3.C.trans p4,by show r.s.seq<=q.s.seq+1+((3:Nat):Int);omega,hnx⟩,by show 4-3<4-2;decide⟩ ?_;exact Q00):Z:=h
theorem Q2y(h:Z:=by
 obtain⟨a1,a2,a3⟩:=hgood h0;rw[<-ew] at a3;refine Q0j ?_;refine Bk (α:=Nat×NSt) (4,r.s) [(0,0),(4,4),(5,5),(6,6),(11,11),(12,12)] ⟨⟨by show 4<=4;decide,g2,g3.id.trans p3,g3.boot.trans hboot,g3.C.trans p4,by show r.s.seq<=q.s.seq+1+((4:Nat):Int);omega,hnx⟩,by show 4-4<4-3;decide⟩ ?_;exact Q00):Z:=h
theorem Q56(k:Y)(h:Wr Y->Z:=by intro kQ;(first|refine Bc (.one .quo) ?_|refine Bc (@ChunkReLe.mk _ _ _ ⟨.inr rfl⟩ id (nlr _) (nzj)) ?_|refine Bc (.plain Q8F) ?_|refine Bc (.one (.ptr rfl)) ?_|refine Bc ⟨id,nlr _,qa3⟩ ?_|refine Bc (.tuple ⟨.quo,.plain rfl,xb⟩) ?_|refine Bc (.one c.re) ?_|refine Bc ⟨id,nlr _,qa4 c⟩ ?_|refine Bc ⟨id,nlr _,jjd (.plain rfl) (.plain rfl) (.plain rfl) (.plain rfl) (.plain rfl) (.plain rfl) (.plain rfl) (.plain rfl) (.plain rfl) (.plain rfl) (.plain rfl) (.plain rfl) (.plain rfl) (.plain rfl) (.plain rfl)⟩ ?_|refine Bc ⟨id,nlr _,qa2⟩ ?_|refine Bc ⟨id,nlr _,lt7 (.plain rfl) (.plain rfl) (.plain rfl) (.plain rfl) (.plain rfl) (.plain rfl) (.slice rfl)⟩ ?_|refine Bc (.one (.agg ⟨.quo,.quo,.quo,.quo,xb⟩)) ?_|refine Bc (.one (.agg ⟨.plain rfl,.plain rfl,.plain rfl,.plain rfl,.plain rfl,.plain rfl,.slice rfl,xb⟩)) ?_|refine Bc (ChunkReLe.same (qam Q8F Q8F)) ?_|fail);exact kQ.o):Z:=h ⟨k⟩
theorem Q5a(k:Y)(h:Wr Y->Z:=by intro kQ;(first|refine Bc (.one .quo) ?_|refine Bc (@ChunkReLe.mk _ _ _ ⟨.inr rfl⟩ id (nlr _) (nzj)) ?_|refine Bc (.plain Q8F) ?_|refine Bc (.one (.ptr rfl)) ?_|fail);exact kQ.o):Z:=h ⟨k⟩
theorem Q5O(k:Y)(h:Wr Y->Z:=by intro kQ;(first|refine Bf (bne_eq_false_iff_eq.2 h0) ?_|refine Bf (bne_eq_false_iff_eq.2 a1) ?_|refine Bf (kN a2) ?_|refine Bf (xe a3) ?_|fail);exact kQ.o):Z:=h ⟨k⟩
theorem Q6e(k:Y)(h:Wr Y->Z:=by intro kQ;(first|refine Bb (qaw W F3 u rw_ m0 hru hrc 0 _ Q8F) ?_|fail);exact kQ.o):Z:=h ⟨k⟩
theorem Q6l(k:Y)(h:Wr Y->Z:=by intro kQ;(first|refine Bm (qc6 (sz:=22) (g:=o0+q.i*22) tysOK rfl rfl (λ_=>rfl) rfl Q8X Q8E Q8E (by simp;first|done|fail)) ?_|refine Bm (qrl (i:=0) (F:=q.F) (ds:=c.rs) (cs:=c.cs) rfl rfl rfl (by exact⟨rfl,rfl⟩) c.den rfl hc) ?_|fail);exact kQ.o):Z:=h ⟨k⟩
theorem Q6o(k:Y)(h:Wr Y->Z:=by intro kQ;(first|refine Bb (qaw W F3 u3 bs3 z1 z2 z3 0 _ Q8F) ?_|refine Bf (kN h0) ?_|fail);exact kQ.o):Z:=h ⟨k⟩
theorem Q6p(k:Y)(h:Wr Y->Z:=by intro kQ;(first|refine Bb (qaw W F3 u2 bs2 m2 y2 y3 0 _ Q8F) ?_|refine Bf (kN h0) ?_|fail);exact kQ.o):Z:=h ⟨k⟩
theorem Q6q(k:Y)(h:Wr Y->Z:=by intro kQ;(first|refine Bb (qaw W F3 u1 bs1 m1 x2 x3 0 _ Q8F) ?_|refine Bf (kN h0) ?_|fail);exact kQ.o):Z:=h ⟨k⟩
theorem Q6u(k:Y)(h:Wr Y->Z:=by intro kQ;(first|refine Bb (qli 0 0 8 _ Q8I Q8I) ?_|refine Bb (qlt 4 4 5 1 4 4 _) ?_|refine Bb (qls _ (qm3 4 4 5 1 4 4) 2 7 Q8I Q8I 0 0 64 0 64 Q8I Q8I 4 _ Q8F) ?_|fail);exact kQ.o):Z:=h ⟨k⟩
theorem Q6J(k:Y)(h:Wr Y->Z:=by intro kQ;(first|with_reducible refine Bb (qfk _) ?_|fail);exact kQ.o):Z:=h ⟨k⟩
theorem Q73(k:Y)(h:Wr Y->Z:=by intro kQ;(first|refine Bf (xe (by show ¬ _<_;omega)) ?_|fail);exact kQ.o):Z:=h ⟨k⟩
theorem Q7h(h:Z:=by first|exact jks W F2 ⟨c.k,c.s,c.b,c.q,IntKind.i64.wrap (IntKind.i64.wrap (100+(q.n:Int)+3)+md age 1000),c.ds,c.t1,c.t2,c.wh,0,c.x,c.y,c.a,c.c,c.d⟩ 0 _ Q8F|fail):Z:=h
theorem Q7m(h:Z:=by first|exact ⟨xn _,r2,w2,r3.boot.trans q5,w3,by show r1.s.seq<=q.s.seq+1+((0:Nat):Int);omega,λ_=>⟨rfl,rfl,λ_=>rfl⟩⟩|fail):Z:=h
theorem Q7o(h:Z:=by first|exact qd8 W F3 s u rw_ m0 hru hrc p2 Q9X c.at_ (100+(q.n:Int)) 6 4 0 3 Q8I _ Q8F Q8F Q8F|fail):Z:=h
theorem Q7r(h:Z:=by first|exact qd8 W F3 s u3 bs3 z1 z2 z3 p2 Q9X c.at_ (100+(q.n:Int)) 6 4 0 3 Q8I _ Q8F Q8F Q8F|fail):Z:=h
theorem Q7s(h:Z:=by first|exact qd8 W F3 s u2 bs2 m2 y2 y3 p2 Q9X c.at_ (100+(q.n:Int)) 6 4 0 3 Q8I _ Q8F Q8F Q8F|fail):Z:=h
theorem Q7t(h:Z:=by first|exact qd8 W F3 s u1 bs1 m1 x2 x3 p2 Q9X c.at_ (100+(q.n:Int)) 6 4 0 3 Q8I _ Q8F Q8F Q8F|fail):Z:=h
theorem Q7G(h:Z:=by first|exact jks W F1 ⟨c.k,2,c.b,c.q,c.st,c.ds,c.t1,c.t2,c.wh,c.wn,c.x,c.y,c.a,c.c,c.d⟩ 0 _ Q8F|fail):Z:=h
theorem Q87(h:Z:=by first|exact (p6 h).2.2 (nlr _) |>.trans (by rw[hr1])|fail):Z:=h
theorem Q8C(h:Z:=by first|exact ChunkReLe.same (qam Q8F Q8F)|fail):Z:=h
theorem Q9c(h:Z:=by rw[p3];exact hbad):Z:=h
theorem Q9K(h:Z:=by rw[<-hr];exact h0):Z:=h
theorem Q9X(h:Z:=by have:=r4;omega):Z:=h
end
end Go.Proofs

namespace Go.Proofs.YtfkngpmgcimdbaaGreat
open Go Go.RowKit Sx
theorem qro{H:Type}{enc:TypeId×Value->H}{W:World}{fuel:Nat}{v:Value}{x:DataW H×List MemPlace}(hf:DataW.trod enc prog W 0 (λ_=>true) true fuel 37 [v]=some x):∃u bs,v=uR u/\Src W [] u bs/\(∀j,j<bs.length->0<=bs.getD j 0/\bs.getD j 0<256)/\(∀s,u=some s->s.n<=s.c):=by
 rcases Deep.open_slice underlying37 hf with ⟨hcs,hx⟩|⟨a,len,cap,m,n,D,Pl,hcs,hb,hl,hm,hmm,hx,hi⟩
 .obtain rfl:v=.slice none 0 0:=by simpa using hcs
  exact⟨none,[],rfl,.nil,λj hj=>absurd hj (xX _),λs hs=>(by cases hs)⟩
 .obtain rfl:v=.slice (some a) len cap:=by simpa using hcs
  have hmc:m=cap:=by simpa using hmm
  subst hmc;have hC:prog.cellsOf 5=1:=by kernel_rfl
  rw[hC] at hi;have key:∀i,i<len->∃z,W.cell? (a.add i)=some (.int .u8 z)/\0<=z/\z<256:=λi hil=>by
   obtain⟨cs',hc,ht'⟩:=hi i Q8E;obtain⟨_,hcl,hat⟩:=World.cells?_some hc;obtain⟨z,hz,_,hwf⟩:=DataW.trod_int underlying5 ht';have:=hat 0 Q8E;rw[hz,x6] at this;have e:(a.add i).add 0=a.add i:=by simp[Addr.add]
   rw[e] at this;have e1:IntKind.u8.min=0:=rfl;have e2:IntKind.u8.max=255:=rfl;have hwf:0<=z/\z<256:=by
    simp only[Lit.wf,xp,xh] at hwf;omega
   exact⟨z,by simpa using this,hwf⟩
  obtain⟨b,o,sp⟩:=a;have hsp:sp=none\/len=0:=by
   cases sp with
   | none=>exact .inl rfl
   | some t=>
    rcases xS len with h0|h0
    .exact .inr h0
    .obtain⟨z,hz,_⟩:=key 0 h0;simp[Addr.add,World.cell?] at hz;split at hz<;>simp at hz
  have hcell:∀j,j<len->∃z,W.cell? ⟨b,o+j,none⟩=some (.int .u8 z)/\0<=z/\z<256:=λj hj=>by
   rcases hsp with rfl|h0
   .obtain⟨z,hz,hr⟩:=key j hj;rw[qdn] at hz;exact⟨z,hz,hr⟩
   .omega
  have hget:∀j,j<len->∀z,W.cell? ⟨b,o+j,none⟩=some (.int .u8 z)->((List.range len).map λj=>intOf ((W.cell? ⟨b,o+j,none⟩).getD undef)).getD j 0=z:=λj hj z hz=>by
   simp[xT,hj,hz,intOf]
  refine⟨some ⟨b,o,len,m,sp⟩,(List.range len).map (λj=>intOf ((W.cell? ⟨b,o+j,none⟩).getD undef)),rfl,.old Q8P hsp λj hj=>?_,λj hj=>?_,λs hs=>?_⟩
  .have hj:j<len:=by simpa using hj
   obtain⟨z,hz,hr⟩:=hcell j hj;rw[hget j hj z hz];exact hz
  .have hj:j<len:=by simpa using hj
   obtain⟨z,hz,hr⟩:=hcell j hj;rw[hget j hj z hz];exact hr
  .cases hs;show len<=m;first|exact hl|exact hm|omega|(simp at hl hm;omega)
theorem qna{f:FuncId}{fn:Func}{c:Code}{vs xs:List Value}{V:Value}(W:World)(hG:jey prog tys)(hm:prog.follows .mixedOrders=true)(hf:prog.funcs[f]?=some fn)(hb:fn.body=some c)(hW:0<W.heap.size)(hx:∀(F:Nat->Prop) ρ,All2 (Den F ρ) vs xs)(hV:qan V=true)
  (hwp:initK vs fn.ntmps λt=>wpC prog tys 1 c (bodyQ prog tys fn λv st=>N (v=V/\∃F,st.h[0]?=some (some (jew W F)))) ⟨t,[some (jew W [])]⟩):Calls prog f ⟨xs⟩ W λe w'=>e=.returned V/\Below W.heap.size W w':=by
 let X:Ctx:=⟨W,λa=>a.block<W.heap.size,1,λ_=>(0,0)⟩
 have one:∀(k:Nat)(d:Chunk),[some (jew W [])][k]?=some (some d)->k=0/\d=jew W []:=λk d hk=>Q3E
 have H:HOK X (λ_=>(0,0)) [some (jew W [])] W:=by
  refine⟨Evo.refl _ _,λi hi=>⟨⟨_,by
    have hi:i<1:=hi;obtain rfl:i=0:=by omega
    rfl⟩,rfl⟩,λk d hk=>hW,λk d hk j hj=>?_,λk d hk ho j hj=>?_,λk d l e hk ho hl hne=>?_,λi b=>i=0/\b<W.heap.size,λk d hk=>?_,λk d b hk hS=>?_,λk d b l e hk hS hl hne=>?_⟩
  .exact Q3j
  .exact Q3j
  .exact absurd ((one k d hk).1.trans (one l e hl).1.symm) hne
  .obtain⟨rfl,rfl⟩:=one k d hk;exact⟨λ_=>hW,λb=>⟨λh=>.inl h.2,λh=>by
    rcases h with h|⟨e,he,_⟩
    .exact⟨rfl,h⟩
    .cases he⟩,nlr _,λ_ _=>rfl,yy,λe he=>by cases he⟩
  .exact Q4x
  .exact absurd ((one l e hl).1.trans (one k d hk).1.symm) hne
 refine(qfv (args:=⟨xs⟩) (X:=X) hG hm hf hb H (hx _ _) hwp).mono ?_
 rintro e w' ⟨ρ',v,st,x,rfl,H',hdx,hq⟩
 obtain⟨rfl,F,hF⟩:=hq.out
 obtain⟨S,E⟩:=H'.ext
 have M:MemOK W F (ρ' 0) (S 0) w':=E.inv 0 _ hF
 exact⟨by rw[<-hdx.self,qa0 hV],H'.evo.os,H'.evo.tape,H'.evo.output,H'.evo.size,λb hb=>M.old b hb⟩
theorem qd8(W:World)(B:List By)(s:NSt)(u:Option Sl)(bs:List Int)(hs:Src W B u bs)(hu:∀j,j<bs.length->0<=bs.getD j 0/\bs.getD j 0<256)(hc:∀s,u=some s->s.n<=s.c)(ok:NI s)(hq:s.seq<65535)(at_ now fine:Int)(i j K:Nat)(hij:i≠j)(h:Hp)(hi:h[i]?=some (some (ndP s)))(hj:h[j]?=some (some (jew W B)))(hK:h[K]?=some none):
  CallAll prog 11 [xd i,uV u,xc at_,xc now,xc fine] h λv ms=>∃r,r=hearP s bs at_ now fine/\(NI r.s/\Same s r.s/\r.s.seq<=s.seq+1)/\((v=.tuple #[.slice none 0 0,xc r.e]/\ms=[(i,ndP r.s),(j,jew W B)])\/(r.e=0/\∃(x:Ou)(κ:Nat),1<=κ/\v=.tuple #[.slice (some ⟨K,0,some 0⟩) 1 κ,xc r.e]/\ms=[(i,ndP r.s),(j,jew W B),(K,ouR [x] κ)])):=by
 obtain⟨n1,n2,n3⟩:=q91 ok hq bs at_ now fine
 refine qax (jdy W B s u bs hs hu hc (ok.hearOK hq) at_ now fine i j K hij h hi hj hK) λv ms hR=>?_
 refine⟨_,rfl,⟨n1,n2,?_⟩,?_⟩
 .rcases n3 with ⟨_,h2,_⟩|⟨y,_,_,_,h2,_⟩<;>omega
 .unfold q0x at hR;rcases n3 with ⟨h1,_⟩|⟨y,h1,h2,_⟩
  .rw[h1] at hR;obtain⟨rfl,rfl⟩:=hR;exact .inl ⟨rfl,rfl⟩
  .rw[h1] at hR;obtain⟨κ,h3,rfl,rfl⟩:=hR;exact .inr ⟨h2,y,κ,h3,rfl,rfl⟩
variable{bs:List Int}
theorem qcp{W:World}{F F':List By}{u:Option Sl}(h:Src W F u bs)(hs:∀e,e∈F->e∈F'):Src W F' u bs:=by
 cases h with
 | nil=>exact .nil
 | own he=>exact .own (hs _ he)
 | old h1 h2 h3=>exact .old h1 h2 h3
theorem jks(W:World)(F:List By)(f:Frm)(i:Nat)(h:Hp)(hi:h[i]?=some (some (jew W F))):
  CallAll prog 10 [fmV f] h λv ms=>∃(F':List By)(u:Option Sl)(bs:List Int)(e:Int),(∀e,e∈F->e∈F')/\Src W F' u bs/\(∀j,j<bs.length->0<=bs.getD j 0/\bs.getD j 0<256)/\(∀s,u=some s->s.n<=s.c)/\(bs=encF f/\f.may/\e=0\/bs=[]/\¬ f.may/\e=1)/\v=.tuple #[uV u,xc e]/\ms=[(i,jew W F')]:=by
 by_cases hf:f.may
 .refine qax (jak W F f hf i h hi) λv ms hR=>?_
  obtain⟨e,h1,h2,rfl,rfl⟩:=hR;exact⟨e::F,e.s,encF f,0,λx hx=>yI _ hx,jal h1,jeh f,By.cap_ok h2,.inl ⟨rfl,hf,rfl⟩,rfl,rfl⟩
 .refine qax (qcr (jam W F f hf i h hi)) λv ms hR=>?_
  obtain⟨rfl,rfl⟩:=hR;exact⟨F,none,[],1,λx hx=>hx,.nil,λj hj=>absurd hj (xX _),λs hs=>(by cases hs),.inr ⟨rfl,hf,rfl⟩,rfl,rfl⟩
theorem qko{s:NSt}{at_ now fine:Int}(h:(decF bs).2≠0):(hearP s bs at_ now fine).s.T=s.T:=by
 unfold hearP;split;all_goals first|rfl|(rw[if_pos h];all_goals rfl)
theorem qhp(x y:Operand)(a b c d e:Int):BinIs prog .neq 27 x y (.agg ⟨[xc a,xc b,xc c,xc d,xc e]⟩) (.agg ⟨[xc a,xc b,xc c,xc d,xc e]⟩) (.bool false):=⟨rfl,rfl,rfl,λw=>by go_simp⟩
theorem jmc{a b:NSt}(h:a.fi=b.fi):a.fv=b.fv/\a.fx=b.fx/\a.fy=b.fy/\a.fa=b.fa/\a.fb=b.fb/\a.fd=b.fd:=by
 unfold NSt.fi at h;injection h with h1 h2 h3;injection h3 with e1 e2 e3 e4 e5;exact⟨h2,e1,e2,e3,e4,e5⟩
theorem qww(w:World):xa 17 #[.slice none 0 0,.slice none 0 0] w (.bool true):=by
 refine qac (G:=tys) w tysOK mixed func17 Q8F Q8F Q8F ?_;repeat' (refine Ba ?_;first|refine Q4Z ?_|refine Bp 1 ?_|refine Q5d ?_|refine Q5m ?_|fail)
 all_goals rfl
theorem qrp(h:Hp):qae prog 17 [.slice none 0 0,.slice none 0 0] h (.bool true) [] []:=qai rfl rfl (call17 _) qww
theorem jau:(decF []).2≠0:=by
 unfold decF;rw[if_pos (show([]:List Int).length<80 from Nat.zero_lt_succ 79)];exact(by decide:(4:Int)≠0)
theorem qgz{e id now:Int}{f:Frm}(h:bs=encF f/\f.may/\e=0\/bs=[]/\¬ f.may/\e=1)(hf:f.s=id\/now+2<f.st):(decF bs).2≠0\/(decF bs).1.s=id\/now+2<(decF bs).1.st:=by
 rcases h with ⟨rfl,h2,_⟩|⟨rfl,_⟩
 .rw[q95 f (q4s h2) h2];exact .inr hf
 .exact .inl jau
structure RQ where
 i:Nat
 n:Nat
 s:NSt
 F:List By
/-- What the walk comes to, in four parts. -/
noncomputable def jplP(b0 o0 n0 cap:Nat)(C0:Nat->Cl)(Bs:Nat->List Int)(u:Option Sl)(rw_:List Int)(age:Int)(W:World)(hW:b0<W.heap.size)(hS:jpc W b0 o0 n0 C0 Bs)(hnn:n0<=9223372036854775807)(hsr:Src W [] u rw_)(hru:∀j,j<rw_.length->0<=rw_.getD j 0/\rw_.getD j 0<256)(hrc:∀s,u=some s->s.n<=s.c):(A:Prop)×'(B:Prop)×'(C:Prop)×'(D:Prop)×'(Wr A->Wr B->Wr C->Wr D->xa 4 #[.slice (some ⟨b0,o0,none⟩) n0 cap,uR u,xc age] W (.bool true)):=by
 refine ⟨?A,?B,?C,?D,?M⟩
 case M=>
  intro zzA zzB zzC zzD
  have hC:jkw (cf6 4 4 5 1 4 4):=qm3 4 4 5 1 4 4
  refine qna (vs:=[.slice (some ⟨b0,o0,none⟩) n0 cap,uV u,xc age]) W tysOK mixed func4 Q8F Q8E (λF ρ=>⟨Den.plain rfl,λr _=>qbs _ r,Den.plain rfl,xb⟩) rfl ?_
  by_cases hbig:1000<uN u
  .exact Q1T
  repeat' (refine Ba ?_;first|refine Q4Z ?_|refine Q5P ?_|refine Q6u ?_|refine Q73 ?_|fail)
  refine Ba ?_
  obtain⟨sN,hN,hn1,hn2,hn3,hn4,hn5⟩:∃s,s=jhc (cf6 4 4 5 1 4 4) 2 7 true 0 0 64 0 64/\NI s/\s.id=2/\s.boot=7/\s.seq=0/\s.C=(cf6 4 4 5 1 4 4):=⟨_,rfl,jei hC Q8I Q8I (λ_=>⟨by decide,by decide⟩) (λh=>by cases h),rfl,rfl,rfl,rfl⟩
  rw[<-hN]
  have e00:(100:Int)+((0:Nat):Int)=100:=rfl
  refine Bq (α:=RQ) (λq=>q.i<=n0/\q.i<=30/\q.n<=q.i/\NI q.s/\q.s.id=2/\q.s.boot=7/\q.s.seq<=5*q.i/\q.s.C=(cf6 4 4 5 1 4 4)) (λq=>n0-q.i) (λq=>[(10,xc (100+(q.n:Int))),(46,xc (q.i:Int))]) (λq=>[(0,jew W q.F),(4,ndP q.s)]) ⟨0,0,sN,[]⟩ [(0,0),(4,4),(5,5)] ⟨xn _,xn _,nlr _,hn1,hn2,hn3,by show sN.seq<=5*((0:Nat):Int);omega,hn5⟩ ?_ ?_
  .repeat' (refine Ba ?_;first|refine Q4Z ?_|exact Be|refine Q5a ?_|refine Bc Q8C ?_|fail)
  clear e00 hN hn1 hn2 hn3 hn4 hn5
  rintro q ⟨q1,q2,q9,q3,q4,q5,q6,q7⟩
  by_cases hi:q.i<n0
  rotate_left
  .repeat' (refine Ba ?_;first|refine Q4Z ?_|refine Q6J ?_|refine Q73 ?_|exact N.endM3 q.F rfl rfl|fail)
  obtain⟨hs,hc⟩:=hS q.i hi
  generalize hcc:C0 q.i=c at hs hc
  have ej:((q.i+1:Nat):Int)=IntKind.i64.wrap ((q.i:Int)+1):=by rw[jep _ Q8E Q8E];rfl
  have q0:=q3.seq
  by_cases h30:q.i=30
  .repeat' (refine Ba ?_;first|refine Q4Z ?_|refine Q6J ?_|refine Q6l ?_|refine Bg (xf (by show _<=_;omega)) ?_|refine Bg (xf (by show _<_;omega)) ?_|exact N.endM3 q.F rfl rfl|fail)
  repeat' (refine Ba ?_;first|refine Q4Z ?_|refine Q6l ?_|refine Bf (xe (by show ¬ _<=_;omega)) ?_|refine Bg (xf (by show _<_;omega)) ?_|fail)
  refine Ba ?_
  refine Bh (jks W q.F c.f 0 _ Q8F) λv ms hR=>?_
  obtain⟨F1,u1,bs1,e1,x0',x1,x2,x3,x4,rfl,rfl⟩:=hR
  rcases x4 with ⟨hb1,hm1,rfl⟩|⟨hb1,hm1,rfl⟩
  rotate_left
  .refine Q0l ?_;refine Bk (α:=RQ) ⟨q.i+1,q.n,q.s,F1⟩ [(0,0),(4,4),(5,5)] ⟨⟨hi,by show q.i+1<=30;omega,by show q.n<=q.i+1;omega,q3,q4,q5,by show q.s.seq<=5*((q.i+1:Nat):Int);omega,q7⟩,by show n0-(q.i+1)<n0-q.i;omega⟩ ?_;repeat' (refine Ba ?_;first|refine Q4Z ?_|exact Be|refine Q5a ?_|refine Bc (qa9 (qa1 ej) rfl) ?_|refine Bc Q8C ?_|fail)
  repeat' (refine Ba ?_;first|refine Q4Z ?_|refine Q5d ?_|refine Q5m ?_|fail)
  refine Ba ?_
  refine Bh (qd8 W F1 q.s u1 bs1 x1 x2 x3 q3 Q8E c.at_ (100+(q.n:Int)) 5 4 0 1 Q8I _ Q8F Q8F Q8F) λv ms hR=>?_
  obtain⟨r1,hr1,⟨r2,r3,r4⟩,hR⟩:=hR
  have t1:=r2.seq
  have hE1:r1.s.T.E.length<=64:=by have:=r2.T.ok.len;have:=r2.T.ok.most;omega
  have w2:r1.s.id=2:=r3.id.trans q4
  have w3:r1.s.C=(cf6 4 4 5 1 4 4):=r3.C.trans q7
  rcases hR with ⟨rfl,rfl⟩|⟨hz,x0,κ0,hκ0,rfl,rfl⟩
  .refine Q0l ?_;refine Bh (qho r1.s hE1 4 2 _ Q8F Q8F) λv ms hR=>?_
   rcases hR with ⟨hE0,rfl,rfl⟩|⟨cap1,hl1,hc1,rfl,rfl⟩
   .revert hC hbig sN q q1 q2 q9 q3 q4 q5 q6 q7 hi c hcc hs hc ej q0 h30 F1 u1 bs1 x0' x1 x2 x3 hb1 hm1 r1 hr1 r2 r3 r4 t1 hE1 w2 w3 hE0;exact zzA.o
   .revert hC hbig sN q q1 q2 q9 q3 q4 q5 q6 q7 hi c hcc hs hc ej q0 h30 F1 u1 bs1 x0' x1 x2 x3 hb1 hm1 r1 hr1 r2 r3 r4 t1 hE1 w2 w3 cap1 hl1 hc1;exact zzB.o
  .refine Q0l ?_;refine Bh (qho r1.s hE1 4 2 _ Q8F Q8F) λv ms hR=>?_
   rcases hR with ⟨hE0,rfl,rfl⟩|⟨cap1,hl1,hc1,rfl,rfl⟩
   .revert hC hbig sN q q1 q2 q9 q3 q4 q5 q6 q7 hi c hcc hs hc ej q0 h30 F1 u1 bs1 x0' x1 x2 x3 hb1 hm1 r1 hr1 r2 r3 r4 t1 hE1 w2 w3 hz x0 κ0 hκ0 hE0;exact zzC.o
   .revert hC hbig sN q q1 q2 q9 q3 q4 q5 q6 q7 hi c hcc hs hc ej q0 h30 F1 u1 bs1 x0' x1 x2 x3 hb1 hm1 r1 hr1 r2 r3 r4 t1 hE1 w2 w3 hz x0 κ0 hκ0 cap1 hl1 hc1;exact zzD.o
end Go.Proofs.YtfkngpmgcimdbaaGreat
