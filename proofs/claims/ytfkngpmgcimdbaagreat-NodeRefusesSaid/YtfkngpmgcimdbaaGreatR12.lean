/-
  The walk of NodeRefuses: part A.
-/
import Derived.Test.YtfkngpmgcimdbaaGreatR11
set_option linter.unusedVariables false
set_option linter.unusedSimpArgs false
set_option maxRecDepth 100000
set_option maxHeartbeats 20000000
open Go.Proofs.Tryz
namespace Go.Proofs.YtfkngpmgcimdbaaGreat
open Go Go.RowKit Sx
theorem jplA(b0 o0 n0 cap:Nat)(C0:Nat->Cl)(Bs:Nat->List Int)(u:Option Sl)(rw_:List Int)(age:Int)(W:World)(hW:b0<W.heap.size)(hS:jpc W b0 o0 n0 C0 Bs)(hnn:n0<=9223372036854775807)(hsr:Src W [] u rw_)(hru:∀j,j<rw_.length->0<=rw_.getD j 0/\rw_.getD j 0<256)(hrc:∀s,u=some s->s.n<=s.c):(jplP b0 o0 n0 cap C0 Bs u rw_ age W hW hS hnn hsr hru hrc).1:=by
 intro hC hbig sN q q1 q2 q9 q3 q4 q5 q6 q7 hi c hcc hs hc ej q0 h30 F1 u1 bs1 x0' x1 x2 x3 hb1 hm1 r1 hr1 r2 r3 r4 t1 hE1 w2 w3 hE0
 refine Q0l ?_;refine Bh Q7G λv ms hR=>?_
 obtain⟨F2,u2,bs2,e2,y0,y1,y2,y3,y4,rfl,rfl⟩:=hR;refine Q0l ?_;refine Bh Q7h λv ms hR=>?_
 obtain⟨F3,u3,bs3,e3,z0,z1,z2,z3,z4,rfl,rfl⟩:=hR;repeat' (refine Ba ?_;first|refine Q4Z ?_|refine Q5d ?_|refine Q5m ?_|fail)
 have hq5:r1.s.seq<=q.s.seq+1:=r4;have m1:=qcp x1 λe he=>z0 e (y0 e he)
 have m2:=qcp y1 z0;have m0:=qcp (F':=F3) hsr λe he=>(by cases he)
 have e00:((0:Nat):Int)=0:=rfl;refine qjo 73786976294838206464 ?_ ?_
 .exact Q18
 refine Ba ?_;refine Bq (α:=Nat×NSt) (λp=>p.1<=4/\NI p.2/\p.2.id=2/\p.2.boot=7/\p.2.C=(cf6 4 4 5 1 4 4)/\p.2.seq<=q.s.seq+1+p.1/\((decF rw_).2≠0->p.2.fi=r1.s.fi/\p.2.T.E=r1.s.T.E/\(p.1<=1->p.2.T=r1.s.T))) (λp=>4-p.1) (λp=>[(98,xc (p.1:Int))]) (λp=>[(4,ndP p.2)]) (0,r1.s) [(0,0),(4,4),(5,5),(6,6),(11,11),(12,12)] Q7m ?_ ?_
 .exact Q00
 clear e00;rintro p ⟨p1,p2,p3,hboot,p4,p5,p6⟩;revert p1 p2 p3 hboot p4 p5 p6;generalize p.1=k;generalize p.2=s;intro p1 p2 p3 hboot p4 p5 p6;have p1:k<=4:=p1;have p2:NI s:=p2;have p3:s.id=2:=p3;have hboot:s.boot=7:=hboot;have p4:s.C=(cf6 4 4 5 1 4 4):=p4;have p5:s.seq<=q.s.seq+1+(k:Int):=p5;have p6:(decF rw_).2≠0->s.fi=r1.s.fi/\s.T.E=r1.s.T.E/\(k<=1->s.T=r1.s.T):=p6;have hC4:s.C 4=1:=by rw[p4];exact hC.h4
 by_cases hk:k<4
 .have hsoon:(100+(q.n:Int))+2<IntKind.i64.wrap (IntKind.i64.wrap (100+(q.n:Int)+3)+md age 1000):=Q2c;have hcs:k=0\/k=1\/k=2\/k=3:=by omega
  rcases hcs with rfl|rfl|rfl|rfl
  .refine Q0X ?_;refine Bh Q7o λv ms hR=>?_
   obtain⟨r,hr,⟨g2,g3,g4⟩,hR⟩:=hR;have hno:(decF rw_).2≠0->r.e≠0:=λh=>by rw[hr];exact qa7 hC4 (.inl h)
   have hnx:(decF rw_).2≠0->r.s.fi=r1.s.fi/\r.s.T.E=r1.s.T.E/\(1<=1->r.s.T=r1.s.T):=λh=>Q1x
   have hgood:r.e=0->(decF rw_).2=0/\¬ (decF rw_).1.s=2/\¬ (100+(q.n:Int))+2<(decF rw_).1.st:=λh0=>Q0L
   have g5:=g4;have ek:((1:Nat):Int)=IntKind.i64.wrap (0+1):=by decide
   have ew:IntKind.i64.wrap ((100+(q.n:Int))+2)=(100+(q.n:Int))+2:=jep _ Q8E Q8E;rcases hR with ⟨rfl,rfl⟩|⟨h0,xx,κ1,hκ1,rfl,rfl⟩
   .by_cases h0:r.e=0
    .exact Q2v
    .repeat' (refine Ba ?_;first|refine Q4Z ?_|refine Q5d ?_|refine Q6e ?_|refine Bf (kN h0) ?_|with_reducible refine Bi (λhb=>?_) (λhb=>?_)|fail)
     all_goals
      refine Ba ?_
      refine Bk (α:=Nat×NSt) (1,r.s) [(0,0),(4,4),(5,5),(6,6),(11,11),(12,12)] ⟨⟨by show 1<=4;decide,g2,g3.id.trans p3,g3.boot.trans hboot,g3.C.trans p4,by show r.s.seq<=q.s.seq+1+((1:Nat):Int);omega,hnx⟩,by show 4-1<4-0;decide⟩ ?_
      repeat' (refine Ba ?_;first|refine Q4Z ?_|exact Be|refine Q56 ?_|fail)
   .exact Q2v
  .refine Q14 ?_;refine Bh Q7t λv ms hR=>?_
   obtain⟨r,hr,⟨g2,g3,g4⟩,hR⟩:=hR;have hno:(decF rw_).2≠0->r.e≠0:=λh=>by rw[hr];exact qhk (s:=q.s) Q87 (p4.trans q7.symm) (p3.trans q4.symm)
   have hnx:(decF rw_).2≠0->r.s.fi=r1.s.fi/\r.s.T.E=r1.s.T.E/\(2<=1->r.s.T=r1.s.T):=λh=>Q1A
   have hgood:r.e=0->(decF bs1).2=0/\¬ (decF bs1).1.s=2/\¬ (100+(q.n:Int))+2<(decF bs1).1.st:=λh0=>Q0M
   have g5:=g4;have ek:((2:Nat):Int)=IntKind.i64.wrap (1+1):=by decide
   have ew:IntKind.i64.wrap ((100+(q.n:Int))+2)=(100+(q.n:Int))+2:=jep _ Q8E Q8E;rcases hR with ⟨rfl,rfl⟩|⟨h0,xx,κ1,hκ1,rfl,rfl⟩
   .by_cases h0:r.e=0
    .exact Q2w
    .repeat' (refine Ba ?_;first|refine Q4Z ?_|refine Q5d ?_|refine Q6q ?_|with_reducible refine Bi (λhb=>?_) (λhb=>?_)|fail)
     all_goals
      refine Ba ?_
      refine Bk (α:=Nat×NSt) (2,r.s) [(0,0),(4,4),(5,5),(6,6),(11,11),(12,12)] ⟨⟨by show 2<=4;decide,g2,g3.id.trans p3,g3.boot.trans hboot,g3.C.trans p4,by show r.s.seq<=q.s.seq+1+((2:Nat):Int);omega,hnx⟩,by show 4-2<4-1;decide⟩ ?_
      repeat' (refine Ba ?_;first|refine Q4Z ?_|exact Be|refine Q56 ?_|fail)
   .exact Q2w
  .refine Q15 ?_;refine Bh Q7s λv ms hR=>?_
   obtain⟨r,hr,⟨g2,g3,g4⟩,hR⟩:=hR;have hbad:=qgz (id:=2) (now:=(100+(q.n:Int))) y4 (.inl rfl);have hno:(decF rw_).2≠0->r.e≠0:=λ_=>by rw[hr];exact qa7 hC4 Q9c
   have hnx:(decF rw_).2≠0->r.s.fi=r1.s.fi/\r.s.T.E=r1.s.T.E/\(3<=1->r.s.T=r1.s.T):=λh=>Q1B
   have hgood:r.e=0->(decF bs2).2=0/\¬ (decF bs2).1.s=2/\¬ (100+(q.n:Int))+2<(decF bs2).1.st:=λh0=>Q0N
   have g5:=g4;have ek:((3:Nat):Int)=IntKind.i64.wrap (2+1):=by decide
   have ew:IntKind.i64.wrap ((100+(q.n:Int))+2)=(100+(q.n:Int))+2:=jep _ Q8E Q8E;rcases hR with ⟨rfl,rfl⟩|⟨h0,xx,κ1,hκ1,rfl,rfl⟩
   .by_cases h0:r.e=0
    .exact Q2x
    .repeat' (refine Ba ?_;first|refine Q4Z ?_|refine Q5d ?_|refine Q6p ?_|with_reducible refine Bi (λhb=>?_) (λhb=>?_)|fail)
     all_goals
      refine Ba ?_
      refine Bk (α:=Nat×NSt) (3,r.s) [(0,0),(4,4),(5,5),(6,6),(11,11),(12,12)] ⟨⟨by show 3<=4;decide,g2,g3.id.trans p3,g3.boot.trans hboot,g3.C.trans p4,by show r.s.seq<=q.s.seq+1+((3:Nat):Int);omega,hnx⟩,by show 4-3<4-2;decide⟩ ?_
      repeat' (refine Ba ?_;first|refine Q4Z ?_|exact Be|refine Q56 ?_|fail)
   .exact Q2x
  .refine Q16 ?_;refine Bh Q7r λv ms hR=>?_
   obtain⟨r,hr,⟨g2,g3,g4⟩,hR⟩:=hR;have hbad:=qgz (id:=2) (now:=(100+(q.n:Int))) z4 (.inr hsoon);have hno:(decF rw_).2≠0->r.e≠0:=λ_=>by rw[hr];exact qa7 hC4 Q9c
   have hnx:(decF rw_).2≠0->r.s.fi=r1.s.fi/\r.s.T.E=r1.s.T.E/\(4<=1->r.s.T=r1.s.T):=λh=>Q1C
   have hgood:r.e=0->(decF bs3).2=0/\¬ (decF bs3).1.s=2/\¬ (100+(q.n:Int))+2<(decF bs3).1.st:=λh0=>Q0O
   have g5:=g4;have ek:((4:Nat):Int)=IntKind.i64.wrap (3+1):=by decide
   have ew:IntKind.i64.wrap ((100+(q.n:Int))+2)=(100+(q.n:Int))+2:=jep _ Q8E Q8E;rcases hR with ⟨rfl,rfl⟩|⟨h0,xx,κ1,hκ1,rfl,rfl⟩
   .by_cases h0:r.e=0
    .exact Q2y
    .repeat' (refine Ba ?_;first|refine Q4Z ?_|refine Q5d ?_|refine Q6o ?_|with_reducible refine Bi (λhb=>?_) (λhb=>?_)|fail)
     all_goals
      refine Ba ?_
      refine Bk (α:=Nat×NSt) (4,r.s) [(0,0),(4,4),(5,5),(6,6),(11,11),(12,12)] ⟨⟨by show 4<=4;decide,g2,g3.id.trans p3,g3.boot.trans hboot,g3.C.trans p4,by show r.s.seq<=q.s.seq+1+((4:Nat):Int);omega,hnx⟩,by show 4-4<4-3;decide⟩ ?_
      repeat' (refine Ba ?_;first|refine Q4Z ?_|exact Be|refine Q56 ?_|fail)
   .exact Q2y
 .exact Q0n
end Go.Proofs.YtfkngpmgcimdbaaGreat
