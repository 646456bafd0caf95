/-
  The walk of wide.step: one digit of a long division.
-/
import Derived.Test.YtfkngpmgcimdbaaGreatR5
set_option linter.unusedVariables false
set_option linter.unusedSimpArgs false
set_option maxRecDepth 100000
set_option maxHeartbeats 20000000
theorem Go.Proofs.zA:type_of% @Int.mul_le_mul_of_nonneg_left:=@Int.mul_le_mul_of_nonneg_left
theorem Go.Proofs.yC:type_of% @Int.mul_le_mul:=@Int.mul_le_mul
open Go.Proofs.Tryz
namespace Go.Proofs
section
variable{Z Y:Prop}
theorem Q02(h:Z:=by
 intro e he;obtain⟨hqe,hde⟩:=he;have s0:=qqz U v e;by_cases hb0:bor U v e=0
 .obtain⟨rfl,e2⟩:=qlm (n:=i) hvp hqe hb0;rw[hb0,e2];repeat' (first|(refine Ba ?_;first|refine Q4Z ?_|refine Bf rfl ?_|refine Q5S ?_|refine Bc ⟨⟨_,rfl,id,nlr _,λj hj=>.plain (qam (qdf _ _) (qaf _ _) j hj)⟩,xb⟩ ?_|refine Bc xb ?_|exact Be|fail)|refine qah Q8F ?_)
 .have s1:bor U v e=1:=by omega
  have s2:U<e*v:=by unfold bor at s1;split at s1<;>omega
  have s3:0<e:=Nat.pos_of_ne_zero λh0=>by rw[h0,yw] at s2;omega
  obtain⟨s4,s5⟩:=qi3 (n:=i) hU1 hde hv s2;have s6:=qln hvp hb0;have hde1:e-1<Bs:=by show e-1<18446744073709551616;omega
  have s7:=qd5 (n:=i) hU1 hde hv;rw[s1];repeat' (first|(refine Ba ?_;first|refine Q4Z ?_|refine Bg rfl ?_|fail)|refine qah Q8F ?_)
  refine Ba ?_;refine Bo (α:=Nat) (λm=>m<=i) (λm=>i-m) (λm=>[(144,xc (m:Int)),(17,.int .u64 ((cry (dif U v e i) v m:Nat):Int))]) (λm=>[(0,⟨true,17,[(0,17,.agg ⟨limL 17 (sg A j (pt (dif U v e i+v) (dif U v e i) m))⟩)]⟩)]) 0 (xn _) ?_ ?_
  .repeat (refine Ba ?_;first|exact Be|refine Q57 ?_|refine Q5y ?_|refine Bc (ChunkLe.of (by rw[qfi])) ?_|refine Bc (by rw[qde];rfl) ?_)
  .intro m hm;have t1:=qjq (dif U v e i) v m;have t2:=qhc (dif U v e i) v m;have t3:=qdt (dif U v e i) v m;have t4:=jeu (dif U v e i) m;have t5:=jeu v m;by_cases hlt:m<i
   .repeat' (first|(refine Ba ?_;first|refine Q4Z ?_|refine Q5i ?_|refine Bj m 1 rfl Q8E ?_|refine Bl _ (qat (p:=m) Q8E Q8E) ?_|refine Bl _ (qbx (i:=m) Q8E Q8E) ?_|refine Bb (jkg (dg (dif U v e i) m) (dg v m) _ _ _ _ t4 t5 t3 t1 t2) ?_|refine N.store ⟨true,17,[(0,17,.agg ⟨limL 17 (sg A j (pt (dif U v e i+v) (dif U v e i) (m+1)))⟩)]⟩ (qbg (k:=m) Q8E Q8E (by rw[ji6]) λm' _ hm'=>qfj _ _ _ _ hm') ?_|fail)|refine qah Q8F ?_)
    refine Ba ?_;refine N.next (m+1) ⟨by omega,by omega⟩ ?_;exact Q3k
   .obtain rfl:m=i:=by omega
    rw[qbv v m hv,xZ] at t1 t2;have hw2:∀m',j+m'<17->m'≠m->dg (dif U v (e-1) m) m'=pt (dif U v e m+v) (dif U v e m) m m':=λm' hm' hne'=>by
     unfold pt;by_cases h:m'<m
     .rw[if_pos h,<-s4,qd4 _ _ _ Q8E]
     .rw[if_neg h,qbv _ _ (xl s7 (xW qbu Q8E)),qbv _ _ (xl (qd5 hU1 hde1 hv) (xW qbu Q8E))]
    repeat' (first|(refine Ba ?_;first|refine Q4Z ?_|refine Q5e ?_|refine Bj m 1 rfl Q8E ?_|refine Bl _ (qbx (i:=m) Q8E Q8E) ?_|refine Bb (jn2 (dg (dif U v e m) m) _ _ _ _ _ rfl t4 t3 t1 t2) ?_|refine N.store ⟨true,17,[(0,17,.agg ⟨limL 17 (sg A j (dg (dif U v (e-1) m)))⟩)]⟩ (qbg (k:=m) Q8E Q8E (by rw[<-s4,qd4 _ _ _ Q8E]) hw2) ?_|fail)|refine qah Q8F ?_)
    refine Ba ?_;refine N.next (e-1) ⟨⟨s6,by omega⟩,by omega⟩ ?_;repeat (refine Ba ?_;first|exact Be|refine Q57 ?_|refine Q5y ?_|refine Bc (qbj (jkh _ s3 hde)) ?_|refine Bc (qbj (qq0 1 _ _ s5.symm Q8I)) ?_)):Z:=h
theorem Q0E(h:Z:=by
 have m1:=xu ((x.1-1)*dg v i) 18446744073709551616;have m2:=xo ((x.1-1)*dg v i) (show 0<18446744073709551616 by decide);have m3:((x.1-1)*dg v i%18446744073709551616+mcr ((x.1-1)) v i)%18446744073709551616=dg ((x.1-1)*v) i:=by omega
 have m4:(x.1-1)*dg v i / 18446744073709551616+((x.1-1)*dg v i%18446744073709551616+mcr ((x.1-1)) v i) / 18446744073709551616=mcr ((x.1-1)) v (i+1):=by omega
 repeat' (first|(refine Ba ?_;first|refine Q4Z ?_|refine Q5i ?_|refine Q6g ?_|refine Bb (qf9 ((x.1-1)) (dg v i) _ hd c7) ?_|refine Bb (jie _ _ _ _ _ _ rfl m2 c2 m3 rfl) ?_|refine Bb (qgm (dg U i) (dg ((x.1-1)*v) i) _ _ _ _ c5 hp hr) ?_|refine N.store ⟨true,17,[(0,17,.agg ⟨limL 17 (sg A j (pt (dif U v ((x.1-1)) n) U (i+1)))⟩)]⟩ (qbg (k:=i) Q8E Q8E (by rw[ji6]) λm _ hm=>qfj _ _ _ _ hm) ?_|fail)|refine qah Q8F ?_)
 exact Q1y):Z:=h
theorem Q0F(h:Z:=by
 repeat' (first|(refine Ba ?_;first|refine Q4Z ?_|refine Bb (qf9 x.1 (dg v (n-2)) _ hd b5) ?_|refine Bb (jie x.2 (dg v (n-1)) _ (x.2+dg v (n-1)) 0 _ rfl hl b4 Q8E Q8E) ?_|refine Q5i ?_|refine Q5e ?_|refine Q6y ?_|refine Q5f ?_)|refine qah Q8F ?_)
 refine Ba ?_;refine N.next (x.1-1,x.2+dg v (n-1)) ⟨⟨⟨gq,gd⟩,h4,?_⟩,Nat.sub_lt hx0 Nat.one_pos⟩ ?_
 .have gm:(x.1-1+1)*dg v (n-1)=(x.1-1)*dg v (n-1)+dg v (n-1):=by rw[xO,Nat.one_mul]
  rw[Nat.sub_add_cancel hx0] at gm;show x.2+dg v (n-1)+(x.1-1)*dg v (n-1)=_;omega
 repeat (refine Ba ?_;first|exact Be|refine Q57 ?_|refine Q5y ?_|refine Bc (qbj (jkh _ hx0 hd)) ?_)):Z:=h
theorem Q0G(h:Z:=by
 have m1:=xu (x.1*dg v i) 18446744073709551616;have m2:=xo (x.1*dg v i) (show 0<18446744073709551616 by decide);have m3:(x.1*dg v i%18446744073709551616+mcr (x.1) v i)%18446744073709551616=dg (x.1*v) i:=by omega
 have m4:x.1*dg v i / 18446744073709551616+(x.1*dg v i%18446744073709551616+mcr (x.1) v i) / 18446744073709551616=mcr (x.1) v (i+1):=by omega
 repeat' (first|(refine Ba ?_;first|refine Q4Z ?_|refine Q5i ?_|refine Q6g ?_|refine Bb (qf9 (x.1) (dg v i) _ hd c7) ?_|refine Bb (jie _ _ _ _ _ _ rfl m2 c2 m3 rfl) ?_|refine Bb (qgm (dg U i) (dg (x.1*v) i) _ _ _ _ c5 hp hr) ?_|refine N.store ⟨true,17,[(0,17,.agg ⟨limL 17 (sg A j (pt (dif U v (x.1) n) U (i+1)))⟩)]⟩ (qbg (k:=i) Q8E Q8E (by rw[ji6]) λm _ hm=>qfj _ _ _ _ hm) ?_|fail)|refine qah Q8F ?_)
 exact Q1y):Z:=h
theorem Q0Y(h:Z:=by
 have hc:=qm1 (q:=U / v) (d:=x.1) (left:=x.2) hU1 hv hn hq0 hl2 (by show x.2*18446744073709551616+_<_;omega);have hx0:0<x.1:=xM (xn _) hc;have g1:x.2+dg v (n-1)<36893488147419103232:=by omega
 have gd:x.1-1<Bs:=by show x.1-1<18446744073709551616;omega
 have gq:U / v<=x.1-1:=by omega
 by_cases h4:x.2+dg v (n-1)<18446744073709551616
 .exact Q0F
 .have hD:IntKind.u64.wrap ((x.1:Int)-1)=((x.1-1:Nat):Int):=jkh _ hx0 hd;have hq:=gq;have hd':=hd;have hd:=gd;repeat' (first|(refine Ba ?_;first|refine Q4Z ?_|refine Bb (qf9 x.1 (dg v (n-2)) _ hd' b5) ?_|refine Bb (jie x.2 (dg v (n-1)) _ (x.2+dg v (n-1)-18446744073709551616) 1 _ rfl hl b4 Q8E Q8E) ?_|refine Q5i ?_|refine Q5e ?_|refine Q6y ?_|refine Q5f ?_)|refine qah Q8F ?_)
  have p1:(x.1-1)*v<Bs^(n+1):=by rw[jg9,xm];exact y9 hv hd
  have pE:=qgp ((x.1-1)*v) n p1;refine Ba ?_;refine Bo (α:=Nat) (λi=>i<=n) (λi=>n-i) (λi=>[(6,.int .u64 (((x.1-1):Nat):Int)),(91,xc (i:Int)),(11,.int .u64 ((mcr ((x.1-1)) v i:Nat):Int)),(12,.int .u64 ((cry ((x.1-1)*v) (dif U v ((x.1-1)) n) i:Nat):Int))]) (λi=>[(0,⟨true,17,[(0,17,.agg ⟨limL 17 (sg A j (pt (dif U v ((x.1-1)) n) U i))⟩)]⟩)]) 0 (xn _) ?_ ?_
  .exact Q1Y
  .intro i hi;have c1:=qi2 ((x.1-1)) v i;have c2:=qhv ((x.1-1)) v i hd;have c3:=qhv ((x.1-1)) v (i+1) hd;have c4:=qlk (U:=U) (d:=(x.1-1)) (n:=n) hd hv hi;have c5:=qdt ((x.1-1)*v) (dif U v ((x.1-1)) n) i;have c6:=qdt ((x.1-1)*v) (dif U v ((x.1-1)) n) (i+1);have c7:=jeu v i;have c8:=jeu ((x.1-1)*v) i;have c9:=jeu (dif U v ((x.1-1)) n) i;have c10:=jeu U i;simp only[Bs] at c1 c2 c3 c4;have hp:(dg U i+18446744073709551616-dg ((x.1-1)*v) i-cry ((x.1-1)*v) (dif U v ((x.1-1)) n) i)%18446744073709551616=dg (dif U v ((x.1-1)) n) i:=by omega
   have hr:(if dg U i<dg ((x.1-1)*v) i+cry ((x.1-1)*v) (dif U v ((x.1-1)) n) i then 1 else 0)=cry ((x.1-1)*v) (dif U v ((x.1-1)) n) (i+1):=by split<;>omega
   by_cases hlt:i<n
   .exact Q0E
   .obtain rfl:i=n:=by omega
    have r1:(dg U i+18446744073709551616-mcr ((x.1-1)) v i-cry ((x.1-1)*v) (dif U v ((x.1-1)) i) i)%18446744073709551616=dg (dif U v ((x.1-1)) i) i:=by rw[qfh _ _ _ hv,<-pE];exact hp
    have r2:(if dg U i<mcr ((x.1-1)) v i+cry ((x.1-1)*v) (dif U v ((x.1-1)) i) i then 1 else 0)=bor U v ((x.1-1)):=by rw[<-qll hU1 hd hv,qfh _ _ _ hv,<-pE];exact hr
    have r3:=qd5 (n:=i) hU1 hd hv;have hw1:∀m,j+m<17->m≠i->dg (dif U v ((x.1-1)) i) m=pt (dif U v ((x.1-1)) i) U i m:=λm hm hne=>by
     exact Q26
    repeat' (first|(refine Ba ?_;first|refine Q4Z ?_|refine Q5e ?_|refine Q6j ?_|refine Bl _ (qbx (i:=i) Q8E Q8E) ?_|refine Bb (qgm (dg U i) (mcr ((x.1-1)) v i) _ _ _ _ c5 r1 r2) ?_|refine N.store ⟨true,17,[(0,17,.agg ⟨limL 17 (sg A j (dg (dif U v ((x.1-1)) i)))⟩)]⟩ Q8x ?_|fail)|refine qah Q8F ?_)
    refine Ba ?_;refine Bo (α:=Nat) (λe=>U / v<=e/\e<18446744073709551616) (λe=>e) (λe=>[(6,.int .u64 ((e:Nat):Int)),(12,.int .u64 ((bor U v e:Nat):Int))]) (λe=>[(0,⟨true,17,[(0,17,.agg ⟨limL 17 (sg A j (dg (dif U v e i)))⟩)]⟩)]) ((x.1-1)) ⟨hq,hd⟩ ?_ ?_
    .exact Q2U
    .exact Q02):Z:=h
theorem Q0Z(h:Z:=by
 have hD:((x.1:Nat):Int)=((x.1:Nat):Int):=rfl;repeat' (first|(refine Ba ?_;first|refine Q4Z ?_|refine Bb (qf9 x.1 (dg v (n-2)) _ hd b5) ?_|refine Q5i ?_|refine Q5e ?_|refine Q6y ?_|refine Q5f ?_)|refine qah Q8F ?_)
 have p1:x.1*v<Bs^(n+1):=by rw[jg9,xm];exact y9 hv hd
 have pE:=qgp (x.1*v) n p1;refine Ba ?_;refine Bo (α:=Nat) (λi=>i<=n) (λi=>n-i) (λi=>[(6,.int .u64 ((x.1:Nat):Int)),(91,xc (i:Int)),(11,.int .u64 ((mcr (x.1) v i:Nat):Int)),(12,.int .u64 ((cry (x.1*v) (dif U v (x.1) n) i:Nat):Int))]) (λi=>[(0,⟨true,17,[(0,17,.agg ⟨limL 17 (sg A j (pt (dif U v (x.1) n) U i))⟩)]⟩)]) 0 (xn _) ?_ ?_
 .exact Q1Y
 .intro i hi;have c1:=qi2 (x.1) v i;have c2:=qhv (x.1) v i hd;have c3:=qhv (x.1) v (i+1) hd;have c4:=qlk (U:=U) (d:=x.1) (n:=n) hd hv hi;have c5:=qdt (x.1*v) (dif U v (x.1) n) i;have c6:=qdt (x.1*v) (dif U v (x.1) n) (i+1);have c7:=jeu v i;have c8:=jeu (x.1*v) i;have c9:=jeu (dif U v (x.1) n) i;have c10:=jeu U i;simp only[Bs] at c1 c2 c3 c4;have hp:(dg U i+18446744073709551616-dg (x.1*v) i-cry (x.1*v) (dif U v (x.1) n) i)%18446744073709551616=dg (dif U v (x.1) n) i:=by omega
  have hr:(if dg U i<dg (x.1*v) i+cry (x.1*v) (dif U v (x.1) n) i then 1 else 0)=cry (x.1*v) (dif U v (x.1) n) (i+1):=by split<;>omega
  by_cases hlt:i<n
  .exact Q0G
  .obtain rfl:i=n:=by omega
   have r1:(dg U i+18446744073709551616-mcr (x.1) v i-cry (x.1*v) (dif U v (x.1) i) i)%18446744073709551616=dg (dif U v (x.1) i) i:=by rw[qfh _ _ _ hv,<-pE];exact hp
   have r2:(if dg U i<mcr (x.1) v i+cry (x.1*v) (dif U v (x.1) i) i then 1 else 0)=bor U v (x.1):=by rw[<-qll hU1 hd hv,qfh _ _ _ hv,<-pE];exact hr
   have r3:=qd5 (n:=i) hU1 hd hv;have hw1:∀m,j+m<17->m≠i->dg (dif U v (x.1) i) m=pt (dif U v (x.1) i) U i m:=λm hm hne=>by
    exact Q26
   repeat' (first|(refine Ba ?_;first|refine Q4Z ?_|refine Q5e ?_|refine Q6j ?_|refine Bl _ (qbx (i:=i) Q8E Q8E) ?_|refine Bb (qgm (dg U i) (mcr (x.1) v i) _ _ _ _ c5 r1 r2) ?_|refine N.store ⟨true,17,[(0,17,.agg ⟨limL 17 (sg A j (dg (dif U v (x.1) i)))⟩)]⟩ Q8x ?_|fail)|refine qah Q8F ?_)
   refine Ba ?_;refine Bo (α:=Nat) (λe=>U / v<=e/\e<18446744073709551616) (λe=>e) (λe=>[(6,.int .u64 ((e:Nat):Int)),(12,.int .u64 ((bor U v e:Nat):Int))]) (λe=>[(0,⟨true,17,[(0,17,.agg ⟨limL 17 (sg A j (dg (dif U v e i)))⟩)]⟩)]) (x.1) ⟨hq,hd⟩ ?_ ?_
   .exact Q2U
   .exact Q02):Z:=h
theorem Q1t(h:Z:=by
 have two:Bd (2:Int) 1:=Bd.of (n:=2) Q8I;exact Bd.add 545 ((Bd.sub 217 hi.Den hi.Z).mul dB) (Bd.add 544 (Bd.add 543 (bD.mul (bU.mul bU)) (bA.mul (bV.mul bV))) (two.mul (bB.mul (bU.mul bV))).neg)):Z:=h
theorem Q1y(h:Z:=by
 refine Ba ?_;refine N.next (i+1) ⟨by omega,by omega⟩ ?_;repeat (refine Ba ?_;first|exact Be|refine Q57 ?_|refine Q5j ?_|refine Bc (qbj (jn3 _ _ _ m4 c3)) ?_)):Z:=h
theorem Q1U(h:Z:=by
 have:z.natAbs / b+1<=z.natAbs:=by
  rcases xS (z.natAbs / b) with h2|h2
  .rw[h2] at h1 ⊢;rw[Nat.mul_zero] at h1;omega
  .have:z.natAbs / b<=b*(z.natAbs / b):=Nat.le_mul_of_pos_left _ hb0;omega
 omega):Z:=h
theorem Q1Y(h:Z:=by repeat (refine Ba ?_;first|exact Be|refine Q57 ?_|refine Q5y ?_|refine Bc (ChunkLe.of (by rw[qfi])) ?_|refine Bc (by rw[qi1];rfl) ?_|refine Bc (by rw[qde];rfl) ?_|refine Bc (qbj hD) ?_)):Z:=h
theorem Q26(h:Z:=by
 unfold pt;by_cases h:m<i
 .rw[if_pos h]
 .rw[if_neg h,qbv _ _ (xl r3 (xW qbu Q8E)),qbv _ _ (xl hU1 (xW qbu Q8E))]):Z:=h
theorem Q2e(k:Y)(h:Wr Y->Z:=by
 intro kQ;refine qac (G:=tys) W tysOK mixed func213 Q8F (by simp[qbc]) Q8F ?_;exact kQ.o):Z:=h ⟨k⟩
theorem Q2U(h:Z:=by repeat (refine Ba ?_;first|exact Be|refine Q57 ?_|refine Q5y ?_|refine Bc (qbj hD) ?_)):Z:=h
theorem Q3e(k:Y)(h:Wr Y->Z:=by
 intro kQ;refine qac (G:=tys) w tysOK mixed func195 Q8F Q8H Q8G ?_;exact kQ.o):Z:=h ⟨k⟩
theorem Q3f(k:Y)(h:Wr Y->Z:=by
 intro kQ;refine qac (G:=tys) w tysOK mixed func196 Q8F Q8H Q8G ?_;exact kQ.o):Z:=h ⟨k⟩
theorem Q3Y(h:Z:=by repeat (refine Ba ?_;first|exact Be|refine Q57 ?_|refine Q5y ?_)):Z:=h
theorem Q58(k:Y)(h:Wr Y->Z:=by intro kQ;(first|refine Bb (cMulz (i.A) (i.D) _ bA.b16 bD.b16 (bA.mul bD).top) ?_|refine Bb (cMulz (i.B) (i.B) _ bB.b16 bB.b16 (bB.mul bB).top) ?_|refine Bb (jhs (i.A*i.D) (i.B*i.B) _ ad.top bb.top dB.top) ?_|refine Bb (cMulz (i.D) (i.U) _ bD.b16 bU.b16 (bD.mul bU).top) ?_|refine Bb (cMulz (i.B) (i.V) _ bB.b16 bV.b16 (bB.mul bV).top) ?_|refine Bb (jhs (i.D*i.U) (i.B*i.V) _ du.top bv.top xB.top) ?_|refine Bb (cMulz (i.A) (i.V) _ bA.b16 bV.b16 (bA.mul bV).top) ?_|refine Bb (cMulz (i.B) (i.U) _ bB.b16 bU.b16 (bB.mul bU).top) ?_|refine Bb (jhs (i.A*i.V) (i.B*i.U) _ av.top bu.top yB.top) ?_|refine Bb (qj4 i i.d _ hi dB) ?_|refine Bb (cMulz (i.d) (i.d) _ dB.b16 dB.b16 (dB.mul dB).top) ?_|refine Bb (cMulz (i.level) (i.D) _ lB.b16 bD.b16 (lB.mul bD).top) ?_|refine Bb (cMulz (i.level) (i.A) _ lB.b16 bA.b16 (lB.mul bA).top) ?_|refine Bb (cMulz (i.level) (i.B) _ lB.b16 bB.b16 (lB.mul bB).top) ?_|refine Bb (jlm (i.level*i.B) _ rB.top) ?_|refine Bb (jqs i _) ?_|refine Bb (qj5 i.d i.x i.y i.level (i.d*i.d) (i.level*i.D) (i.level*i.A) (-(i.level*i.B)) 74 _ _ Q8F) ?_|refine Bb (jht i.A _ bA.top) ?_|refine Bb (jht i.d _ dB.top) ?_|refine Bb (jht i.level _ lB.top) ?_|refine Bc (qct _) ?_|fail);exact kQ.o):Z:=h ⟨k⟩
theorem Q5f(k:Y)(h:Wr Y->Z:=by intro kQ;(first|refine Bj n 1 rfl Q8E ?_|refine Bj (n-1) 1 (jn4 n 1 Q8E Q8E) Q8E ?_|refine Bj (n-2) 1 (jn4 n 2 Q8E Q8E) Q8E ?_|refine Bl _ (qa6 (k:=n) Q8E Q8E) ?_|refine Bl _ (qa6 (k:=n-1) Q8E Q8E) ?_|refine Bl _ (qa6 (k:=n-2) Q8E Q8E) ?_|refine Bl _ (qat (p:=n-1) Q8E Q8E) ?_|refine Bl _ (qat (p:=n-2) Q8E Q8E) ?_|fail);exact kQ.o):Z:=h ⟨k⟩
theorem Q5g(k:Y)(h:Wr Y->Z:=by intro kQ;(first|refine Bf Q9z ?_|refine Bf (by rw[xj,qjs];omega) ?_|refine Bb (jms i.x i.d 0 (jer i.x i.d) 0 75 _ xB.top x2.top x3.top hd dB.top d2.top z1 b1 Q8F) ?_|refine Bb (jms i.y i.d 0 (jer i.y i.d) 0 75 _ yB.top y2.top y3.top hd dB.top d2.top z2 b2 Q8F) ?_|refine Bb (jmt (i.level*i.D) (i.d*i.d) 0 (jen (i.level*i.D) (i.d*i.d)) 0 75 _ pB.top sP sB.top z3 b3 Q8F) ?_|refine Bb (jmt (i.level*i.A) (i.d*i.d) 0 (jen (i.level*i.A) (i.d*i.d)) 0 75 _ qB.top sP sB.top z4 b4 Q8F) ?_|refine Bb (jp2 (-(i.level*i.B)) (i.d*i.d) 0 (-(i.level*i.B) / (i.d*i.d)) 0 75 _ rB.neg.top sP sB.top z5 b5 Q8F) ?_|fail);exact kQ.o):Z:=h ⟨k⟩
theorem Q5r(k:Y)(h:Wr Y->Z:=by intro kQ;(first|refine Bj 1 0 Q8I Q8I ?_|refine Bj 2 0 Q8I Q8I ?_|refine Bj 3 0 Q8I Q8I ?_|fail);exact kQ.o):Z:=h ⟨k⟩
theorem Q5A(k:Y)(h:Wr Y->Z:=by intro kQ;(first|refine Bb (cEMay _ _ _ _ _ _) ?_|refine Bb (qsn _ _ _ _ _ _) ?_|refine Bf Q9R ?_|refine Bf (by rw[xf hf];rfl) ?_|refine Bb (qur (usq (trP ex ey ea eb ed).toNat) (usq (trP fx fy fa fb fd).toNat) ea fa 0 hs ht Q8E Q8E 11 12 13 _ Q8F Q8F Q8F Q8I) ?_|refine Bb (qur (usq (trP ex ey ea eb ed).toNat) (usq (trP fx fy fa fb fd).toNat) ed fd _ hs ht Q8E Q8E 11 12 13 _ Q8F Q8F Q8F Q8I) ?_|refine Bb (q5y (usq (trP ex ey ea eb ed).toNat) (usq (trP fx fy fa fb fd).toNat) eb fb _ hs ht Q8E Q8E 11 12 13 _ Q8F Q8F Q8F Q8I) ?_|refine Bf (neF hb) ?_|fail);exact kQ.o):Z:=h ⟨k⟩
theorem Q5H(k:Y)(h:Wr Y->Z:=by intro kQ;(first|refine Bc ⟨⟨_,rfl,id,nlr _,g1 (.plain rfl)⟩,xb⟩ ?_|refine Bc xb ?_|fail);exact kQ.o):Z:=h ⟨k⟩
theorem Q5L(k:Y)(h:Wr Y->Z:=by intro kQ;(first|refine Bb (cEMay _ _ _ _ _ _) ?_|fail);exact kQ.o):Z:=h ⟨k⟩
theorem Q67(k:Y)(h:Wr Y->Z:=by intro kQ;(first|with_reducible refine N.max2 ?_|fail);exact kQ.o):Z:=h ⟨k⟩
theorem Q6g(k:Y)(h:Wr Y->Z:=by intro kQ;(first|refine Bj i 1 rfl Q8E ?_|refine Bl _ (qat (p:=i) Q8E Q8E) ?_|refine Bl _ (qbx (i:=i) Q8E Q8E) ?_|fail);exact kQ.o):Z:=h ⟨k⟩
theorem Q6j(k:Y)(h:Wr Y->Z:=by intro kQ;(first|refine Bj i 1 rfl Q8E ?_|fail);exact kQ.o):Z:=h ⟨k⟩
theorem Q6w(k:Y)(h:Wr Y->Z:=by intro kQ;(first|refine Bb (qed z0 _) ?_|refine Bb (qed z1 _) ?_|refine Bb (qed z2 _) ?_|refine Bb (qed z3 _) ?_|refine Bb (qed z4 _) ?_|refine Bb (qed z5 _) ?_|refine Bb (qed z6 _) ?_|fail);exact kQ.o):Z:=h ⟨k⟩
theorem Q6y(k:Y)(h:Wr Y->Z:=by intro kQ;(first|refine Bg (yk.2 Q8E) ?_|refine Bf (beq_eq_false_iff_ne.2 Q8E) ?_|fail);exact kQ.o):Z:=h ⟨k⟩
theorem Q6G(k:Y)(h:Wr Y->Z:=by intro kQ;(first|refine Bb (jnk _ _ _ _ _ _ _ (qbr Q8F) (qsj Q8F)) ?_|with_reducible refine Bb (cMade _ _ _ (by first|exact hq1 (by simpa using hb)|omega)) ?_|fail);exact kQ.o):Z:=h ⟨k⟩
theorem Q6K(k:Y)(h:Wr Y->Z:=by intro kQ;(first|refine Bc (.plain (qad _)) ?_|refine Bc xb ?_|fail);exact kQ.o):Z:=h ⟨k⟩
theorem Q6Q(k:Y)(h:Wr Y->Z:=by intro kQ;(first|refine Bj 4 0 Q8I Q8I ?_|refine Bj 5 0 Q8I Q8I ?_|refine Bj 6 0 Q8I Q8I ?_|fail);exact kQ.o):Z:=h ⟨k⟩
theorem Q6Z(k:Y)(h:Wr Y->Z:=by intro kQ;(first|with_reducible refine Bb (qh3 _ _ m4) ?_|fail);exact kQ.o):Z:=h ⟨k⟩
theorem Q7L(h:Z:=by first|exact ⟨.slice rfl,.slice rfl,xb⟩|fail):Z:=h
theorem Q7Q(h:Z:=by first|exact ⟨λh=>⟨rfl,nlr _⟩,nlr _,g1 (.plain rfl)⟩|fail):Z:=h
theorem Q7Y(h:Z:=by first|exact ⟨λh=>Q94,nlr _,g1 (.plain rfl)⟩|fail):Z:=h
theorem Q85(h:Z:=by first|exact ⟨.plain rfl,.plain (qad _),.plain (qad _),.ptr rfl,xb⟩|fail):Z:=h
theorem Q8s(h:Z:=by first|exact ⟨rfl,rfl,rfl,λw=>by go_simp;by_cases h1:a=c<;>by_cases h2:b=d<;>simp[h1,h2]⟩|fail):Z:=h
theorem Q8x(h:Z:=by first|exact qbg (k:=i) Q8E Q8E rfl hw1|fail):Z:=h
theorem Q8D(h:Z:=by first|exact ⟨.plain rfl,.plain rfl,.plain rfl,.ptr rfl,.ptr rfl,.ptr rfl,xb⟩|fail):Z:=h
theorem Q9r(h:Z:=by simp[qan,qbc];rfl):Z:=h
theorem Q9z(h:Z:=by rw[xj,qi4];omega):Z:=h
theorem Q9H(h:Z:=by rwa[yA]):Z:=h
theorem Q9R(h:Z:=by rw[xf he];rfl):Z:=h
theorem Q9T(h:Z:=by simp[Apart,hne]):Z:=h
end
end Go.Proofs

namespace Go.Proofs.YtfkngpmgcimdbaaGreat
open Go Go.RowKit Sx
theorem jcb(hi lo y:Nat)(h:Hp)(hh:hi<y)(hlo:lo<18446744073709551616)(hy:y<18446744073709551616):qae prog 233 [.int .u64 hi,.int .u64 lo,.int .u64 y] h (.tuple #[.int .u64 (((hi*18446744073709551616+lo) / y:Nat):Int),.int .u64 (((hi*18446744073709551616+lo)%y:Nat):Int)]) [] []:=
 qai rfl rfl (call233 _) λw=>by
  rcases xS hi with h0|h0
  .subst h0;have:=qub lo y hlo Q8E hy w;rw[yw,xr];exact this
  .have:=quc hi lo y h0 hh hlo hy w;unfold d64q d64r at this;exact this
theorem jkg(x y c p q:Nat)(h:Hp)(hx:x<18446744073709551616)(hy:y<18446744073709551616)(hc:c<=1)(hp:(x+y+c)%18446744073709551616=p)(hq:(x+y+c) / 18446744073709551616=q):qae prog 159 [.int .u64 x,.int .u64 y,.int .u64 c] h (.tuple #[.int .u64 p,.int .u64 q]) [] []:=by
 have:=qyt (x:Int) y c h Q8E Q8E Q8E Q8E Q8E Q8E;have e1:((x:Int)+y+c)%18446744073709551616=((p:Nat):Int):=by omega
 have e2:((x:Int)+y+c) / 18446744073709551616=((q:Nat):Int):=by omega
 rw[e1,e2] at this;exact this
theorem jie(x y:Nat)(c:Int)(p q:Nat)(h:Hp)(hc:c=0)(hx:x<18446744073709551616)(hy:y<18446744073709551616)(hp:(x+y)%18446744073709551616=p)(hq:(x+y) / 18446744073709551616=q):qae prog 159 [.int .u64 x,.int .u64 y,.int .u64 c] h (.tuple #[.int .u64 p,.int .u64 q]) [] []:=by
 subst hc;exact jkg x y 0 p q h hx hy Q8I hp hq
theorem jn2(x:Nat)(y:Int)(c p q:Nat)(h:Hp)(hy:y=0)(hx:x<18446744073709551616)(hc:c<=1)(hp:(x+c)%18446744073709551616=p)(hq:(x+c) / 18446744073709551616=q):qae prog 159 [.int .u64 x,.int .u64 y,.int .u64 c] h (.tuple #[.int .u64 p,.int .u64 q]) [] []:=by
 subst hy;exact jkg x 0 c p q h hx Q8I hc hp hq
def sg(A j:Nat)(f:Nat->Nat):Nat->Nat:=λk=>if k<j then dg A k else f (k-j)
theorem q5x(A j D:Nat):sg A j (dg D)=dg (seg A j D):=funext λk=>by rw[jb5];rfl
theorem q79(A j:Nat):sg A j (dg (A / Bs^j))=dg A:=by rw[q5x,q3c]
variable{n k:Nat}
theorem qa6{o:Bool}{A j q:Nat}{f:Nat->Nat}(hp:j+k<n)(hq:q=j+k):Reads ⟨o,n,[(0,n,.agg ⟨limL n (sg A j f)⟩)]⟩ q false 1 (.int .u64 ((f k:Nat):Int)):=by
 grind[qat,sg]
theorem qbg{A j q:Nat}{f g:Nat->Nat}{x:Int}(hp:j+k<n)(hq:q=j+k)(hx:x=((g k:Nat):Int))(hg:∀m,j+m<n->m≠k->g m=f m):Writes ⟨true,n,[(0,n,.agg ⟨limL n (sg A j f)⟩)]⟩ q 1 (.int .u64 x) ⟨true,n,[(0,n,.agg ⟨limL n (sg A j g)⟩)]⟩:=by
 grind[qch,sg]
def pt(D U i:Nat):Nat->Nat:=λm=>if m<i then dg D m else dg U m
theorem qfi(D U:Nat):pt D U 0=dg U:=by rfl
theorem ji6(D U i:Nat):pt D U (i+1) i=dg D i:=by grind[pt]
theorem jcc(D U i:Nat):pt D U i i=dg U i:=by grind[pt]
theorem qfj(D U i m:Nat)(h:m≠i):pt D U (i+1) m=pt D U i m:=by
 grind[pt]
theorem jkh(d:Nat)(h:0<d)(hd:d<18446744073709551616):IntKind.u64.wrap ((d:Int)-1)=((d-1:Nat):Int):=by rw[xk];omega
theorem jn3(a b c:Nat)(h:a+b=c)(hc:c<18446744073709551616):IntKind.u64.wrap ((a:Int)+b)=(c:Int):=by rw[xk];omega
theorem qq0(a b c:Nat)(h:a=b+c)(hc:a<18446744073709551616):IntKind.u64.wrap ((a:Int)-b)=(c:Int):=by rw[xk];omega
theorem jn4(n k:Nat)(hk:k<=n)(hn:n<9223372036854775808):IntKind.i64.wrap ((n:Int)-k)=((n-k:Nat):Int):=by grind[jep]
variable{ix:List (Nat×Nat)}{m:Nat}
theorem q8a(f:Nat->Nat)(hm:m<=n):((⟨true,n,[(0,n,.agg ⟨limL n f⟩)]⟩:Chunk).own=true->(⟨true,n,[(0,n,.agg ⟨limL n f⟩)]⟩:Chunk).own=true/\m<=(⟨true,n,[(0,n,.agg ⟨limL n f⟩)]⟩:Chunk).n)/\(⟨true,n,[(0,n,.agg ⟨limL n f⟩)]⟩:Chunk).n<=(⟨true,n,[(0,n,.agg ⟨limL n f⟩)]⟩:Chunk).n/\qbh ix ⟨true,n,[(0,n,.agg ⟨limL n f⟩)]⟩ ⟨true,n,[(0,n,.agg ⟨limL n f⟩)]⟩:=
 ⟨λ_=>⟨rfl,hm⟩,nlr _,λj hj=>.plain (qam (qdf _ _) (qaf _ _) j hj)⟩
theorem qbx{o:Bool}{A j i D U q:Nat}(hp:j+i<n)(hq:q=j+i):Reads ⟨o,n,[(0,n,.agg ⟨limL n (sg A j (pt D U i))⟩)]⟩ q false 1 (.int .u64 ((dg U i:Nat):Int)):=by
 have:=qa6 (o:=o) (n:=n) (A:=A) (f:=pt D U i) hp hq;rwa[jcc] at this
theorem qah{f j z s:Nat}{K:Nat->Prop}(hz:z=1)(h:K (f+j)):jh8 f j z (s+1) K:=by
 subst hz;unfold jh8 jmd jh7 jg5
 grind
theorem jn5(A v j n:Nat)(i k s1 s2:Nat)(o:Bool)(h:Hp)(hn:2<=n)(hjn:j+n+1<=17)(hU:A / Bs^j<v*Bs)(hv0:9223372036854775808*Bs^(n-1)<=v)(hv:v<Bs^n)
  (hi:h[i]?=some (some ⟨true,17,[(0,17,.agg ⟨limL 17 (dg A)⟩)]⟩)) (hk:h[k]?=some (some ⟨o,16,[(0,16,.agg ⟨limL 16 (dg v)⟩)]⟩)) (hne:i≠k) :
  qae prog 236 [.slice (some ⟨i,j,some s1⟩) (n+1) (17-j),.slice (some ⟨k,0,some s2⟩) n 16] h (.int .u64 ((A / Bs^j / v:Nat):Int)) [(i,⟨true,17,[(0,17,.agg ⟨limL 17 (dg (seg A j (A / Bs^j%v)))⟩)]⟩)] [k]:=by
 rw[<-q79 A j] at hi
 rw[<-q5x]
 generalize hUe:A / Bs^j=U at *
 obtain⟨hU1,htop⟩:=jb7 hU hv hn
 have hvp:0<v:=xl (zc Q8I (qb3 _)) hv0
 have hvt:=jb6 hv0 hv hn
 have hq0:U / v*v<=U:=Nat.div_mul_le_self _ _
 have hqB:U / v<18446744073709551616:=by rw[xQ hvp,xm];exact hU
 have hg1:=(qup hq0 hn).1
 rw[(quq hU1 hn).1] at hg1
 have b1:=jeu U n
 have b2:=jeu U (n-1)
 have b3:=jeu U (n-2)
 have b4:=jeu v (n-1)
 have b5:=jeu v (n-2)
 refine qak (G:=tys) [⟨i,_,⟨true,17,[(0,17,.agg ⟨limL 17 (sg A j (dg U))⟩)]⟩,⟨true,17,[(0,17,.agg ⟨limL 17 (sg A j (dg (U%v)))⟩)]⟩⟩,⟨k,_,⟨false,16,[(0,16,.agg ⟨limL 16 (dg v)⟩)]⟩,⟨false,0,[]⟩⟩] [] [.slice (some ⟨0,j,some 1⟩) (n+1) (17-j),.slice (some ⟨1,0,some 0⟩) n 16] tysOK mixed func236 Q8F (call236) ⟨hi,hk,xb⟩ ⟨q8a _ (nlr _),q5n _,xb⟩ Q9T xb Q7L ?_
 repeat' (first|(refine Ba ?_;first|refine Q4Z ?_|refine Q5f ?_)|refine qah Q8F ?_)
 refine Bi (λhb=>?_) (λhb=>?_)
 .rw[xh] at hb;have hb':dg U n<dg v (n-1):=by omega
  repeat' (first|(refine Ba ?_;first|refine Q4Z ?_|refine Bb (jcb _ _ _ _ hb' b2 b4) ?_|refine Q5f ?_)|refine qah Q8F ?_)
  have d1:=xu (dg U n*18446744073709551616+dg U (n-1)) (dg v (n-1));have d2:=xo (dg U n*18446744073709551616+dg U (n-1)) (show 0<dg v (n-1) by omega);have d3:(dg U n*18446744073709551616+dg U (n-1)) / dg v (n-1)<18446744073709551616:=by
   rw[xQ Q8E,xm];have:(dg U n+1)*18446744073709551616<=dg v (n-1)*18446744073709551616:=xV _ hb';omega
  have d4:U / v<=(dg U n*18446744073709551616+dg U (n-1)) / dg v (n-1):=(yT Q8E).2 hg1;refine Ba ?_;refine Bo (α:=Nat×Nat) (λx=>(U / v<=x.1/\x.1<18446744073709551616)/\x.2<18446744073709551616/\x.2+x.1*dg v (n-1)=dg U n*Bs+dg U (n-1)) (λx=>x.1) (λx=>[(6,.int .u64 (x.1:Int)),(7,.int .u64 (x.2:Int))]) (λx=>[]) ((dg U n*18446744073709551616+dg U (n-1)) / dg v (n-1),(dg U n*18446744073709551616+dg U (n-1))%dg v (n-1)) ⟨⟨d4,d3⟩,by omega,by rw[Nat.add_comm,xm];exact d1⟩ ?_ ?_
  .exact Q3Y
  .intro x hx;obtain⟨⟨hq,hd⟩,hl,hl2⟩:=hx;have m1:=xu (x.1*dg v (n-2)) 18446744073709551616;have m2:=xo (x.1*dg v (n-2)) (show 0<18446744073709551616 by decide);by_cases h1:x.1*dg v (n-2) / 18446744073709551616<x.2
   .exact Q0Z
   by_cases h2:x.1*dg v (n-2) / 18446744073709551616=x.2
   .by_cases h3:x.1*dg v (n-2)%18446744073709551616<=dg U (n-2)
    .exact Q0Z
    .exact Q0Y
   .exact Q0Y
 .rw[xj] at hb;have hq:U / v<=18446744073709551615:=by omega
  have hd:18446744073709551615<Bs:=by decide
  have hD:(18446744073709551615:Int)=((18446744073709551615:Nat):Int):=rfl;repeat' (first|(refine Ba ?_;first|refine Q4Z ?_|refine Q5f ?_)|refine qah Q8F ?_)
  have p1:18446744073709551615*v<Bs^(n+1):=by rw[jg9,xm];exact y9 hv hd
  have pE:=qgp (18446744073709551615*v) n p1;refine Ba ?_;refine Bo (α:=Nat) (λi=>i<=n) (λi=>n-i) (λi=>[(6,.int .u64 ((18446744073709551615:Nat):Int)),(91,xc (i:Int)),(11,.int .u64 ((mcr (18446744073709551615) v i:Nat):Int)),(12,.int .u64 ((cry (18446744073709551615*v) (dif U v (18446744073709551615) n) i:Nat):Int))]) (λi=>[(0,⟨true,17,[(0,17,.agg ⟨limL 17 (sg A j (pt (dif U v (18446744073709551615) n) U i))⟩)]⟩)]) 0 (xn _) ?_ ?_
  .exact Q1Y
  .intro i hi;have c1:=qi2 (18446744073709551615) v i;have c2:=qhv (18446744073709551615) v i hd;have c3:=qhv (18446744073709551615) v (i+1) hd;have c4:=qlk (U:=U) (d:=18446744073709551615) (n:=n) hd hv hi;have c5:=qdt (18446744073709551615*v) (dif U v (18446744073709551615) n) i;have c6:=qdt (18446744073709551615*v) (dif U v (18446744073709551615) n) (i+1);have c7:=jeu v i;have c8:=jeu (18446744073709551615*v) i;have c9:=jeu (dif U v (18446744073709551615) n) i;have c10:=jeu U i;simp only[Bs] at c1 c2 c3 c4;have hp:(dg U i+18446744073709551616-dg (18446744073709551615*v) i-cry (18446744073709551615*v) (dif U v (18446744073709551615) n) i)%18446744073709551616=dg (dif U v (18446744073709551615) n) i:=by omega
   have hr:(if dg U i<dg (18446744073709551615*v) i+cry (18446744073709551615*v) (dif U v (18446744073709551615) n) i then 1 else 0)=cry (18446744073709551615*v) (dif U v (18446744073709551615) n) (i+1):=by split<;>omega
   by_cases hlt:i<n
   .have m1:=xu (18446744073709551615*dg v i) 18446744073709551616;have m2:=xo (18446744073709551615*dg v i) (show 0<18446744073709551616 by decide);have m3:(18446744073709551615*dg v i%18446744073709551616+mcr (18446744073709551615) v i)%18446744073709551616=dg (18446744073709551615*v) i:=by omega
    have m4:18446744073709551615*dg v i / 18446744073709551616+(18446744073709551615*dg v i%18446744073709551616+mcr (18446744073709551615) v i) / 18446744073709551616=mcr (18446744073709551615) v (i+1):=by omega
    repeat' (first|(refine Ba ?_;first|refine Q4Z ?_|refine Q5i ?_|refine Q6g ?_|refine Bb (qf9 (18446744073709551615) (dg v i) _ hd c7) ?_|refine Bb (jie _ _ _ _ _ _ rfl m2 c2 m3 rfl) ?_|refine Bb (qgm (dg U i) (dg (18446744073709551615*v) i) _ _ _ _ c5 hp hr) ?_|refine N.store ⟨true,17,[(0,17,.agg ⟨limL 17 (sg A j (pt (dif U v (18446744073709551615) n) U (i+1)))⟩)]⟩ (qbg (k:=i) Q8E Q8E (by rw[ji6]) λm _ hm=>qfj _ _ _ _ hm) ?_|fail)|refine qah Q8F ?_)
    exact Q1y
   .obtain rfl:i=n:=by omega
    have r1:(dg U i+18446744073709551616-mcr (18446744073709551615) v i-cry (18446744073709551615*v) (dif U v (18446744073709551615) i) i)%18446744073709551616=dg (dif U v (18446744073709551615) i) i:=by rw[qfh _ _ _ hv,<-pE];exact hp
    have r2:(if dg U i<mcr (18446744073709551615) v i+cry (18446744073709551615*v) (dif U v (18446744073709551615) i) i then 1 else 0)=bor U v (18446744073709551615):=by rw[<-qll hU1 hd hv,qfh _ _ _ hv,<-pE];exact hr
    have r3:=qd5 (n:=i) hU1 hd hv;have hw1:∀m,j+m<17->m≠i->dg (dif U v (18446744073709551615) i) m=pt (dif U v (18446744073709551615) i) U i m:=λm hm hne=>Q26
    repeat' (first|(refine Ba ?_;first|refine Q4Z ?_|refine Q5e ?_|refine Q6j ?_|refine Bl _ (qbx (i:=i) Q8E Q8E) ?_|refine Bb (qgm (dg U i) (mcr (18446744073709551615) v i) _ _ _ _ c5 r1 r2) ?_|refine N.store ⟨true,17,[(0,17,.agg ⟨limL 17 (sg A j (dg (dif U v (18446744073709551615) i)))⟩)]⟩ Q8x ?_|fail)|refine qah Q8F ?_)
    refine Ba ?_;refine Bo (α:=Nat) (λe=>U / v<=e/\e<18446744073709551616) (λe=>e) (λe=>[(6,.int .u64 ((e:Nat):Int)),(12,.int .u64 ((bor U v e:Nat):Int))]) (λe=>[(0,⟨true,17,[(0,17,.agg ⟨limL 17 (sg A j (dg (dif U v e i)))⟩)]⟩)]) (18446744073709551615) ⟨hq,hd⟩ ?_ ?_
    .exact Q2U
    .exact Q02
theorem qq1{P:Program}{g:FuncId}{vs:List Value}{h:Hp}{R:Value->Mz->Prop}(rh:List Nat)(hr:∀xs w,(callFunc g xs).run P w=.ok (.enter g xs) w)
  (hc:∀(ρ:Rz)(w:World),(∀i∈rh,∀c,h[i]?=some (some c)->∀j,j<c.n->w.cell? ⟨(ρ i).1,(ρ i).2+j,none⟩=some (den1 ρ (c.f j)))->Calls P g ⟨vs.map (den ρ)⟩ w λe w'=>∃v,e=.returned v/\qan v=true/\R v []/\Below w.heap.size w w'):CallAll P g vs h R:=
 λX ρ w xs H hx=>by
  have hxs:xs=vs.map (den ρ):=qn8 hx;subst hxs;refine .inr ⟨hr _ w,(hc ρ w λi hi c hic j hj=>?_).mono ?_⟩
  .obtain⟨x,hx,hd⟩:=H.cell i c hic j hj;rw[hx,hd.self]
  .rintro e w' ⟨v,rfl,hv,hR,hb⟩;exact⟨v,rfl,v,[],ρ,hR,AgreeOn.refl _ _,H.frame hb,λr _=>qa0 hv r⟩
theorem jcd(i f v k:Nat)(h:Hp)(h1:Has h i f v)(hk:k<64)(hv:v<Bs^16):CallAll prog 237 [.pointer (some ⟨i,f,some 0⟩),xc k] h (λx ms=>ms=[]/\∃b,x=.tuple #[.agg ⟨limL 16 (dg (v / 2^k))⟩,.bool b]):=
 qq1 [i] (call237) λρ w hc=>(q2s (ρ i).1 ((ρ i).2+f) v k hk hv w (h1.digs Q8P hc)).mono (by
  rintro e w' ⟨⟨b,he⟩,hb⟩;exact⟨_,he,by simp only[qan,yq,List.all_nil];rw[show(sz (v / 2^k))=⟨limL 16 (dg (v / 2^k))⟩ from rfl,qaf];rfl,⟨rfl,b,rfl⟩,hb⟩)
theorem q8b(t:Nat)(h0:t≠0)(h:t<18446744073709551616):t<2^lb t/\2^(lb t-1)<=t/\0<lb t/\lb t<=64:=by
 have h1:=qd1 64 t h;have h2:=jj9 t h;exact⟨h1.1,(h1.2 h0).1,(h1.2 h0).2,h2⟩
theorem qzs{b:Nat}(hb:b<Bs^16)(hb1:Bs<=b):(2<=nd b/\nd b<=16/\b<Bs^nd b/\Bs^(nd b-1)<=b)/\lb (dg b (nd b-1))<=64/\0<lb (dg b (nd b-1))/\9223372036854775808*Bs^(nd b-1)<=b*2^(64-lb (dg b (nd b-1)))/\b*2^(64-lb (dg b (nd b-1)))<Bs^nd b:=by
 have h1:=qgk b 16 hb;have h2:nd b<=16:=jg7 b;have h3:=qoa b 16;have e:ndTo b 16=nd b:=rfl;rw[e] at h1 h3;have h4:2<=nd b:=by
  grind
 have h5:dg b (nd b-1)≠0:=by rcases h3 with h|h;(exfalso;omega);exact h
 obtain⟨n,hn⟩:∃n,nd b=n+1:=⟨nd b-1,by omega⟩;rw[hn] at h1 h2 h4 h5 ⊢;rw[Nat.add_sub_cancel] at h5 ⊢;have h6:=jeu b n;obtain⟨t1,t2,t3,t4⟩:=q8b _ h5 h6;have h7:=qgp b n h1;have h8:dg b n*Bs^n<=b:=by rw[h7];exact Nat.div_mul_le_self _ _
 have h9:b<(dg b n+1)*Bs^n:=by
  have:=Nat.lt_div_mul_add (a:=b) (qb3 n)
  grind
 generalize lb (dg b n)=L at *;generalize dg b n=t at *;have p1:(2:Nat)^(L-1)*2^(64-L)=9223372036854775808:=by rw[<-x8,show L-1+(64-L)=63 by omega]
 have p2:(2:Nat)^L*2^(64-L)=Bs:=by rw[<-x8,show L+(64-L)=64 by omega]
 have q1:1*Bs^n<=b:=xC (xV _ (Nat.one_le_iff_ne_zero.2 h5)) h8;rw[Nat.one_mul] at q1;refine⟨⟨h4,h2,h1,q1⟩,t4,t3,?_,?_⟩
 .rw[<-p1];refine xC ?_ (xV _ h8);rw[zg];exact xV _ (xV _ t2)
 .refine xl (yN h9 (yd Q8I)) ?_;rw[jg9,zg];refine xC (xV _ (xV _ t1)) (yx ?_)
  grind
theorem q8c{a b:Nat}(ha:a<Bs^16)(hab:b<=a)(hb:Bs^(nd b-1)<=b):nd b<=nd a:=by
 refine Nat.not_lt.1 λh=>?_
 have h1:a<Bs^nd a:=qgk a 16 ha;have:Bs^nd a<=Bs^(nd b-1):=xW qbu Q8E;omega
theorem cLz(y:Nat)(h:Hp)(hy:y<18446744073709551616):qae prog 234 [.int .u64 y] h (xc (64-(lb y:Int))) [] []:=
 qai rfl rfl (call234 _) λw=>(q5l y hy w).mono Q96
theorem jqk(i f v k:Nat)(kk:Int)(h:Hp)(h1:Has h i f v)(hk:k<64)(e:kk=(k:Nat)):qae prog 235 [.pointer (some ⟨i,f,some 0⟩),xc kk] h (.agg ⟨limL 16 (dg (v*2^k))⟩) [] [i]:=by
 subst e;exact cUp i f v k h h1 hk
theorem jql(y s:Nat)(h:Hp)(hy:y<18446744073709551616)(hs:64-lb y=s)(hl:lb y<=64):qae prog 234 [.int .u64 y] h (xc (s:Int)) [] []:=by
 have:=cLz y h hy;rw[show(64-(lb y:Int))=(s:Int) by omega] at this;exact this
def fil2(a s i:Nat):Nat->Nat:=λk=>if k<i then dg (a*2^s) k else if k=i/\0<i then dg a (i-1) / 2^(64-s) else 0
theorem qzt(a s:Nat):limL 17 (fil2 a s 0)=limL 17 (λ_=>0):=by grind[qcz,fil2]
theorem q8d{a s i:Nat}(hs:s<64):bits .or .u64 ((fil2 a s i i:Nat):Int) (IntKind.u64.wrap ((dg a i:Int)*2^s))=((dg (a*2^s) i:Nat):Int):=by
 have h1:=xo (dg a i*2^s) qbu;have hf:fil2 a s i i=if 0<i then dg a (i-1) / 2^(64-s) else 0:=by
  grind[fil2]
 have hlt:fil2 a s i i<18446744073709551616:=by
  rw[hf];split
  .exact xM (yz _ _) (jeu _ _)
  .decide
 rw[qgl,qqq _ _ hlt h1,hf];rcases xS i with h0|h0
 .grind[qt9]
 .rw[if_pos h0,qod _ _ _ hs h0];by_cases h2:s=0
  .subst h2;rw[xK (jeu _ _)];simp
  .have h3:=jka (dg a i) (dg a (i-1)) s Q8E hs (jeu _ _);rw[qgl,qdh,qqq _ _ h1 (xM (yz _ _) (jeu _ _))] at h3
   grind
theorem jp0(s:Nat)(h:s<=64):sh (s:Int) .u64=s:=by
 unfold sh;show min (s:Int).toNat 64=s;omega
theorem jn6(x s:Nat)(hs:0<s/\s<64):((x:Nat):Int).fdiv (2^sh (IntKind.i64.wrap (64-(s:Int))) .u64)=((x / 2^(64-s):Nat):Int):=by
 rw[IntWalk.i64_in _ Q8E,show(64:Int)-s=((64-s:Nat):Int) by omega,jp0 _ Q8E,zk _ (Int.pow_nonneg Q8I)];rfl
def mid2(a s i:Nat):Nat->Nat:=λk=>if k=i then dg (a*2^s) i else fil2 a s i k
theorem q8e{a s:Nat}(ha:a<Bs^16)(hs:s<64):limL 17 (fil2 a s 16)=limL 17 (dg (a*2^s)):=by grind[qcz,fil2,qod,qbv]
theorem N.bndD{lo hi:Option Value}{len cap:Nat}{K:Nat->Nat->Nat->Prop}(p q s:Nat)(h1:Bnd hi len cap q)(h2:Bnd lo 0 q p)(k:K p q s):N (jk3 lo hi len cap K):=N.mk ⟨p,q,s,h1,h2,k⟩
theorem jn7(j n:Nat)(h:j+n+1<=17):IntKind.i64.wrap (IntKind.i64.wrap (((j+1:Nat):Int)-1+(n:Int))+1)=((j+n+1:Nat):Int):=by
 grind[jep]
theorem jce(a b s j n i k s1 s2 l c l2 c2 f f2:Nat)(o:Bool)(h:Hp)(hf:f=j)(hl:l=n+1)(hc:c=17-j)(hf2:f2=0)(hl2:l2=n)(hc2:c2=16)(hb0:0<b)(hn:2<=n)(hjn:j+n+1<=17)(hv0:9223372036854775808*Bs^(n-1)<=b*2^s)(hv:b*2^s<Bs^n)
  (hi:h[i]?=some (some ⟨true,17,[(0,17,.agg ⟨limL 17 (dg (lft a b s (j+1)))⟩)]⟩)) (hk:h[k]?=some (some ⟨o,16,[(0,16,.agg ⟨limL 16 (dg (b*2^s))⟩)]⟩)) (hne:i≠k) :
  qae prog 236 [.slice (some ⟨i,f,some s1⟩) l c,.slice (some ⟨k,f2,some s2⟩) l2 c2] h (.int .u64 ((dg (a / b) j:Nat):Int)) [(i,⟨true,17,[(0,17,.agg ⟨limL 17 (dg (lft a b s j))⟩)]⟩)] [k]:=by
 subst hf hl hc hf2 hl2 hc2
 have:=jn5 (lft a b s (f+1)) (b*2^s) f l2 i k s1 s2 o h hn hjn (jb9 hb0) hv0 hv hi hk hne
 rw[q78 hb0,q3d] at this
 exact this
theorem qwb(a b:Nat)(ha:a<Bs^16)(hb:b<Bs^16)(hb1:Bs<=b)(hab:b<=a)(w:World):xa 215 #[.agg ⟨limL 16 (dg a)⟩,.agg ⟨limL 16 (dg b)⟩] w (.tuple #[.agg ⟨limL 16 (dg (a / b))⟩,.agg ⟨limL 16 (dg (a%b))⟩]):=by
 obtain⟨⟨n2,n16,hbn,hbn1⟩,t4,t3,hn1,hn2⟩:=qzs hb hb1;have hm:=q8c ha hab hbn1;have hm16:=jg7 a;have ham:a<Bs^nd a:=qgk a 16 ha;have htop:=jeu b (nd b-1);have hb0:0<b:=xl qbu hb1;obtain⟨s,hs⟩:∃s,64-lb (dg b (nd b-1))=s:=⟨_,rfl⟩;have hs64:s<64:=by omega
 rw[hs] at hn1 hn2;obtain⟨hl0,hl1⟩:=qzr (n:=nd b) ham hs64 Q8E hm hn1;have hql:=jca hb0 hl1;have hq0:limL 16 (jgi a b (nd a-nd b+1))=limL 16 (λ_=>0):=qcz λj _=>by
  unfold jgi;split
  .exact qbv _ _ (xl hql (xW qbu Q92))
  .rfl
 refine qac (G:=tys) w tysOK mixed func215 Q8F (by simp[qaf]) Q9J ?_;repeat' (first|(refine Ba ?_;first|refine Q4Z ?_|refine Bb (jhq _ _ _ _ _ _ _ (qbr Q8F) (qbr Q8F) ha hb) ?_|refine Bb (q5j _ _ _ _ (qbr Q8F)) ?_|refine Bf (by rw[xj,qyy];omega) ?_|refine Bf (beq_eq_false_iff_ne.2 Q8E) ?_|refine Bj (nd b-1) 1 (jn4 (nd b) 1 Q8E Q8E) Q8E ?_|refine Bl _ (qat (p:=nd b-1) Q8E rfl) ?_|refine Bb (jql _ s _ htop hs t4) ?_|refine Bb (jqk 1 0 b s _ _ (qbr Q8F) hs64 rfl) ?_)|refine qah Q8F ?_)
 refine Ba ?_;refine Bo (α:=Nat) (λi=>i<=16) (λi=>16-i) (λi=>[(53,xc (i:Int))]) (λi=>[(11,⟨true,17,[(0,17,.agg ⟨limL 17 (fil2 a s i)⟩)]⟩)]) 0 (xn _) ?_ ?_
 .repeat (refine Ba ?_;first|exact Be|refine Q57 ?_|refine Q5y ?_|refine Bc (ChunkLe.of (by rw[qzt];rfl)) ?_)
 .intro i hi;by_cases hlt:i<16
  .have ho:bits .or .u64 ((fil2 a s i i:Nat):Int) (IntKind.u64.wrap ((dg a i:Int)*2^sh (s:Int) .u64))=((dg (a*2^s) i:Nat):Int):=by
    rw[jp0 s Q8E];exact q8d hs64
   have hd:=jeu a i;have hw:∀k,k<17->k≠i->mid2 a s i k=fil2 a s i k:=λk _ hk=>by unfold mid2;rw[if_neg hk]
   have hw2:∀k,k<17->k≠i+1->fil2 a s (i+1) k=mid2 a s i k:=λk _ hk=>by
    unfold mid2 fil2;by_cases h1:k=i
    .rw[if_pos Q8E,if_pos h1,h1]
    .by_cases h2:k<i
     .rw[if_pos Q8E,if_neg h1,if_pos h2]
     .rw[if_neg Q8E,if_neg Q8E,if_neg h1,if_neg h2,if_neg Q8E]
   have hv2:fil2 a s (i+1) (i+1)=dg a i / 2^(64-s):=by unfold fil2;rw[if_neg Q8E,if_pos ⟨rfl,by omega⟩];rfl
   by_cases hs0:0<s
   .repeat' (first|(refine Ba ?_;first|refine Q4Z ?_|refine Q5i ?_|refine Q6j ?_|refine Bl _ (qat (p:=i) Q8E rfl) ?_|refine N.store ⟨true,17,[(0,17,.agg ⟨limL 17 (mid2 a s i)⟩)]⟩ (qch (p:=i) Q8E rfl (by unfold mid2;rw[if_pos rfl];exact ho) hw) ?_|refine Bc Q8E ?_|refine Bj (i+1) 1 Q9M Q8E ?_|refine Bl _ (qat (p:=i+1) Q8E rfl) ?_|refine Bc Q9p ?_|refine N.store ⟨true,17,[(0,17,.agg ⟨limL 17 (fil2 a s (i+1))⟩)]⟩ (qch (p:=i+1) Q8E rfl (by rw[hv2];exact jn6 _ _ ⟨hs0,hs64⟩) hw2) ?_)|refine qah Q8F ?_)
    exact Q36
   .obtain rfl:s=0:=by omega
    have hw3:∀k,k<17->k≠i->fil2 a 0 (i+1) k=fil2 a 0 i k:=λk hk hne=>by
     by_cases h1:k=i+1
     .subst h1;rw[hv2,xK hd];unfold fil2;rw[if_neg Q8E,if_neg Q8E]
     .rw[hw2 k hk h1,hw k hk hne]
    have hv3:fil2 a 0 (i+1) i=dg (a*2^0) i:=by unfold fil2;rw[if_pos Q8E]
    repeat' (first|(refine Ba ?_;first|refine Q4Z ?_|refine Q5i ?_|refine Q5d ?_|refine Q6j ?_|refine Bl _ (qat (p:=i) Q8E rfl) ?_|refine N.store ⟨true,17,[(0,17,.agg ⟨limL 17 (fil2 a 0 (i+1))⟩)]⟩ (qch (p:=i) Q8E rfl (by rw[hv3];exact ho) hw3) ?_|refine Bc Q8E ?_|refine Bc Q8I ?_)|refine qah Q8F ?_)
    exact Q36
  .obtain rfl:i=16:=by omega
   rw[q8e ha hs64];repeat' (first|(refine Ba ?_;first|refine Q4Z ?_|refine Q5d ?_)|refine qah Q8F ?_)
   refine Ba ?_;refine Bo (α:=Nat) (λr=>r<=nd a-nd b+1) (λr=>r) (λr=>[(16,xc ((r:Int)-1))]) (λr=>[(11,⟨true,17,[(0,17,.agg ⟨limL 17 (dg (lft a b s r))⟩)]⟩),(4,⟨true,16,[(0,16,.agg ⟨limL 16 (jgi a b r)⟩)]⟩)]) (nd a-nd b+1) (nlr _) ?_ ?_
   .repeat (refine Ba ?_;first|exact Be|refine Q57 ?_|refine Q5y ?_|refine Bc (ChunkLe.of (by rw[hl0])) ?_|refine Bc (ChunkLe.of (by rw[hq0];rfl)) ?_|refine Bc (qau Q9y) ?_)
   .intro r hr;rcases r with _|j
    .repeat' (first|(refine Ba ?_;first|refine Q4Z ?_|refine Q5d ?_|refine N.bndD 0 16 0 rfl rfl ?_|refine N.bndD 0 16 0 ⟨rfl,by decide⟩ rfl ?_)|refine qah Q8F ?_)
     rw[q3e];have hz:a%b*2^s<Bs^16:=xA (yN (xo _ hb0) (yd Q8I)) (xl hn2 (xW qbu n16));refine Ba ?_;refine N.mk ⟨16,.agg ⟨limL 16 (dg (a%b*2^s))⟩,⟨true,16,[(0,16,.agg ⟨limL 16 (dg (a%b*2^s))⟩)]⟩,rfl,?_,qaa _ _,qmx,?_⟩
     .have:=qmw (o:=true) (n:=17) (m:=16) (p:=0) (f:=dg (a%b*2^s)) Q8E;simp only[xr] at this;exact this
     repeat' (first|(refine Ba ?_;first|refine Q4Z ?_)|refine qah Q8F ?_)
     refine Ba ?_;refine Bh (jcd 5 0 _ s _ (qbr Q8F) hs64 hz) ?_;rintro x ms ⟨rfl,y,rfl⟩;rw[zv _ (yd Q8I)];repeat' (first|(refine Ba ?_;first|refine Q4Z ?_|with_reducible refine N.eq ?_)|refine qah Q8F ?_)
     rw[show limL 16 (jgi a b 0)=limL 16 (dg (a / b)) from qcz λj _=>by unfold jgi;rw[if_pos (xn _)]]
    .repeat' (first|(refine Ba ?_;first|refine Q4Z ?_|refine Q5i ?_|refine N.bndD j (j+nd b+1) 1 ⟨jn7 _ _ Q8E,by omega⟩ ⟨by omega,by omega⟩ ?_|refine N.bndD 0 (nd b) 0 ⟨rfl,by omega⟩ rfl ?_|refine Bb (jce a b s j (nd b) 11 10 _ _ _ _ _ _ _ _ _ _ (by rw[if_neg Q8E];show 0+j*1=j;omega) Q8E rfl (by first|rfl|(rw[if_neg Q8E])) rfl rfl hb0 n2 Q8E hn1 hn2 Q8F Q8F Q8I) ?_|refine Bj j 1 Q8E Q8E ?_|refine N.store ⟨true,16,[(0,16,.agg ⟨limL 16 (jgi a b j)⟩)]⟩ (qch (p:=j) Q8E rfl (by rw[qyx]) λk _ hk=>(qqs _ _ _ _ hk).symm) ?_)|refine qah Q8F ?_)
     refine Ba ?_;refine N.next j ⟨by omega,by omega⟩ ?_;repeat (refine Ba ?_;first|exact Be|refine Q57 ?_|refine Q5y ?_|refine Bc (qau Q9y) ?_)
theorem qwc(a b:Nat)(ha:a<Bs^16)(hb:b<Bs^16)(hab:a<b)(w:World):xa 215 #[.agg ⟨limL 16 (dg a)⟩,.agg ⟨limL 16 (dg b)⟩] w (.tuple #[.agg ⟨limL 16 (dg (a / b))⟩,.agg ⟨limL 16 (dg (a%b))⟩]):=by
 rw[xK hab,xv hab,show limL 16 (dg 0)=limL 16 (λ_=>0) from qcz λj _=>qjp j];refine qac (G:=tys) w tysOK mixed func215 Q8F (by simp[qaf]) Q9J ?_;repeat' (first|(refine Ba ?_;first|refine Q4Z ?_|refine Bb (jhq _ _ _ _ _ _ _ (qbr Q8F) (qbr Q8F) ha hb) ?_|refine Bg (by rw[xh,qyy];exact hab) ?_|refine Bc (qaa _ _) ?_)|refine qah Q8F ?_)
 all_goals rfl
theorem q3f(a b:Nat)(h:Hp)(ha:a<Bs^16)(hb:b<Bs^16)(hb0:0<b):qae prog 215 [.agg ⟨limL 16 (dg a)⟩,.agg ⟨limL 16 (dg b)⟩] h (.tuple #[.agg ⟨limL 16 (dg (a / b))⟩,.agg ⟨limL 16 (dg (a%b))⟩]) [] []:=by
 by_cases h1:b<18446744073709551616
 .exact qjr a b h ha hb0 h1
 .by_cases h2:a<b
  .exact qai (by simp[qaf]) Q9J (call215 _) λw=>qwc a b ha hb h2 w
  .exact qai (by simp[qaf]) Q9J (call215 _) λw=>qwb a b ha hb (by show 18446744073709551616<=b;omega) Q8E w
open Go Go.RowKit Sx
theorem qok(z:Int)(b:Nat)(hb:0<b):(z / (b:Int)).natAbs=if decide (z<0)=true/\z.natAbs%b≠0 then z.natAbs / b+1 else z.natAbs / b:=by
 by_cases h:z<0
 .have e:z = -((z.natAbs:Nat):Int):=by omega
  have h1:=xu z.natAbs b;have h2:=xo z.natAbs hb;generalize z.natAbs=n at *;subst e;by_cases h3:n%b=0
  .rw[if_neg (by simp[h3])];have:(-(n:Int)) / (b:Int) = -((n / b:Nat):Int):=by
    rw[Int.neg_ediv_of_dvd (Int.natCast_dvd_natCast.2 (Nat.dvd_of_mod_eq_zero h3))];rfl
   rw[this,yA,yU]
  .rw[if_pos ⟨by simpa using h,h3⟩];have:(-(n:Int)) / (b:Int) = -((n / b+1:Nat):Int):=by
    refine Int.le_antisymm ?_ ?_
    .have : -(n:Int) < -((n / b:Nat):Int)*b:=by
      have:((n / b*b:Nat):Int)<n:=by rw[xm] at h1;omega
      rw[Int.neg_mul,<-yh];omega
     have:=Int.ediv_lt_of_lt_mul Q8E this;generalize n / b=q at *;generalize -(n:Int) / (b:Int)=r at *;omega
    .refine Int.le_ediv_of_mul_le Q8E ?_;have:(n:Int)<=((n / b+1)*b:Nat):=by rw[xO,xm];omega
     rw[Int.neg_mul,<-yh];omega
   rw[this,yA,yU]
 .rw[if_neg (by simp[h])];obtain⟨n,rfl⟩:=yL (by omega:0<=z);rfl
theorem qq2(z:Int)(b:Nat)(hb:0<b):decide (z / (b:Int)<0)=(decide (z<0)&&decide ((z / (b:Int)).natAbs≠0)):=by
 by_cases h:z<0
 .have:=Int.ediv_neg_of_neg_of_pos h (by omega:(0:Int)<b);generalize z / (b:Int)=q at *;rw[xf h,xf this,xf Q8E];rfl
 .have:=Int.ediv_nonneg (by omega:0<=z) (by omega:(0:Int)<=b);generalize z / (b:Int)=q at *;rw[xe h,xe Q8E];rfl
theorem jn8(z:Int)(b:Nat)(hz:z.natAbs<Top)(hb0:0<b)(hbb:b<18446744073709551616)(w:World):xa 195 #[.agg ⟨wiL (decide (z<0)) false z.natAbs⟩,.agg ⟨wiL false false b⟩] w (.tuple #[wz (z / (b:Int)),xc 0]):=by
 have hz16:=xA hz qbw;have hq:z.natAbs / b<=z.natAbs:=yz _ _;have hm:z.natAbs%b<b:=xo _ hb0;have hq1:z.natAbs%b≠0->z.natAbs / b+1<Top:=λh=>by
  have h1:=xu z.natAbs b;exact Q1U
 refine Q3e ?_;repeat' (refine Ba ?_;first|refine Q50 ?_|with_reducible (first|refine Bi (λhb=>?_) (λhb=>?_)|refine Br _ (qf4 _ _ _ b (jmo hbb) false rfl) ?_|refine Bb (qjr _ _ _ hz16 hb0 hbb) ?_|refine Br _ (qf4 _ _ _ _ (jmo (xA hm hbb)) true rfl) ?_)|refine Q6G ?_|fail)
 .exfalso;simp at hb;omega
 all_goals
  rename_i hx
  have e1:=qok z b hb0
  have e2:=qq2 z b hb0
  simp only[wz]
  rw[e2,e1]
  first
   | (rw[if_pos ⟨by simpa using hx,by simpa using hb⟩];simp)
   | (rw[if_neg (by simp at hx hb ⊢;omega)];simp)
theorem jlo(z:Int)(b:Nat)(h:Hp)(hz:z.natAbs<Top)(hb0:0<b)(hbb:b<18446744073709551616):qae prog 195 [wz z,wz (b:Int)] h (.tuple #[wz (z / (b:Int)),xc 0]) [] []:=
 qai Q8Z Q9A (call195 _) λw=>by
  have:=jn8 z b hz hb0 hbb w;rw[show wz (b:Int)=.agg ⟨wiL false false b⟩ by unfold wz;rw[xe Q8E,yU]];exact this
theorem qol(z:Int)(b:Nat)(hz:z.natAbs<Top)(hb0:0<b):(z / (b:Int)).natAbs<Top:=by
 rw[qok z b hb0];have h1:=xu z.natAbs b;have h3:z.natAbs / b<=z.natAbs:=yz _ _;split
 .rename_i h;exact Q1U
 .omega
theorem q8f(z:Int)(b:Nat)(hz:z.natAbs<Top)(hb0:0<b)(hbb:b<18446744073709551616)(w:World):xa 196 #[wz z,wz (b:Int)] w (.tuple #[wz (-(-z / (b:Int))),xc 0]):=by
 have h1:(-z / (b:Int)).natAbs<Top:=qol _ _ Q9H hb0;have h0:(-z).natAbs<Top:=by rwa[yA]
 refine Q3f ?_;repeat' (refine Ba ?_;first|refine Q50 ?_|with_reducible (first|refine Bb (jlm _ _ Q92) ?_|refine Bb (jlo _ _ _ h0 hb0 hbb) ?_)|fail)
 all_goals rfl
theorem jcf(z:Int)(b:Nat)(h:Hp)(hz:z.natAbs<Top)(hb0:0<b)(hbb:b<18446744073709551616):qae prog 196 [wz z,wz (b:Int)] h (.tuple #[wz (-(-z / (b:Int))),xc 0]) [] []:=
 qai Q8Z Q9A (call196 _) (q8f z b hz hb0 hbb)
theorem qzu(a b:Int)(ha : -9223372036854775808<=a)(ha':a<9223372036854775808)(hb : -9223372036854775808<=b)(hb':b<9223372036854775808):a.natAbs<Bs^16/\b.natAbs<Bs^16/\(a*b).natAbs<Top:=by
 have h1:a.natAbs<=9223372036854775808:=by omega
 have h2:b.natAbs<=9223372036854775808:=by omega
 refine⟨jmo Q8E,jmo Q8E,?_⟩;rw[yO];exact xM (ym h1 h2) (xl (by decide:9223372036854775808*9223372036854775808<2^127) (xW Q8I (by decide:127<=qh1):2^127<=2^qh1))
theorem q3g(a b:Int)(c:Nat)(ha : -9223372036854775808<=a)(ha':a<9223372036854775808)(hb : -9223372036854775808<=b)(hb':b<9223372036854775808)(hc:0<c)(hcc:c<9223372036854775808)(w:World):xa 171 #[xc a,xc b,xc (c:Int)] w (.tuple #[xc (n64 (a*b / (c:Int))),xc (e64 (a*b / (c:Int)))]):=by
 obtain⟨m1,m2,m3⟩:=qzu a b ha ha' hb hb';have m4:(a*b / (c:Int)).natAbs<Top:=qol _ _ m3 hc;refine qac (G:=tys) w tysOK mixed func171 Q8F Q8H Q8G ?_;repeat' (refine Ba ?_;first|refine Q50 ?_|with_reducible (first|refine Bb (cOfz _ _ ha ha') ?_|refine Bb (cOfz _ _ hb hb') ?_)|refine Q6f ?_|with_reducible (first|refine Bb (cMulz _ _ _ m1 m2 m3) ?_|refine Bb (jlo _ _ _ m3 hc Q8E) ?_)|refine Q6Z ?_|fail)
 all_goals rfl
theorem qsp(a b:Int)(c:Nat)(h:Hp)(ha : -9223372036854775808<=a)(ha':a<9223372036854775808)(hb : -9223372036854775808<=b)(hb':b<9223372036854775808)(hc:0<c)(hcc:c<9223372036854775808):qae prog 171 [xc a,xc b,xc (c:Int)] h (.tuple #[xc (n64 (a*b / (c:Int))),xc (e64 (a*b / (c:Int)))]) [] []:=
 qai rfl rfl (call171 _) (q3g a b c ha ha' hb hb' hc hcc)
theorem qwd(a b:Int)(c:Nat)(ha : -9223372036854775808<=a)(ha':a<9223372036854775808)(hb : -9223372036854775808<=b)(hb':b<9223372036854775808)(hc:0<c)(hcc:c<9223372036854775808)(w:World):xa 172 #[xc a,xc b,xc (c:Int)] w (.tuple #[xc (n64 (-(-(a*b) / (c:Int)))),xc (e64 (-(-(a*b) / (c:Int))))]):=by
 obtain⟨m1,m2,m3⟩:=qzu a b ha ha' hb hb';have m4:(-(-(a*b) / (c:Int))).natAbs<Top:=by rw[yA];exact qol _ _ Q9H hc
 refine qac (G:=tys) w tysOK mixed func172 Q8F Q8H Q8G ?_;repeat' (refine Ba ?_;first|refine Q50 ?_|with_reducible (first|refine Bb (cOfz _ _ ha ha') ?_|refine Bb (cOfz _ _ hb hb') ?_)|refine Q6f ?_|with_reducible (first|refine Bb (cMulz _ _ _ m1 m2 m3) ?_|refine Bb (jcf _ _ _ m3 hc Q8E) ?_)|refine Q6Z ?_|fail)
 all_goals rfl
theorem qlo(a b:Int)(c:Nat)(h:Hp)(ha : -9223372036854775808<=a)(ha':a<9223372036854775808)(hb : -9223372036854775808<=b)(hb':b<9223372036854775808)(hc:0<c)(hcc:c<9223372036854775808):qae prog 172 [xc a,xc b,xc (c:Int)] h (.tuple #[xc (n64 (-(-(a*b) / (c:Int)))),xc (e64 (-(-(a*b) / (c:Int))))]) [] []:=
 qai rfl rfl (call172 _) (qwd a b c ha ha' hb hb' hc hcc)
open Go Go.RowKit Sx
theorem jn9(z:Int)(b:Nat)(hz:z.natAbs<Top)(hb0:0<b)(hbb:b<Bs^16)(w:World):xa 195 #[.agg ⟨wiL (decide (z<0)) false z.natAbs⟩,.agg ⟨wiL false false b⟩] w (.tuple #[wz (z / (b:Int)),xc 0]):=by
 have hz16:=xA hz qbw;have hq:z.natAbs / b<=z.natAbs:=yz _ _;have hm:z.natAbs%b<b:=xo _ hb0;have hq1:z.natAbs%b≠0->z.natAbs / b+1<Top:=λh=>by
  have h1:=xu z.natAbs b;exact Q1U
 refine Q3e ?_;repeat' (refine Ba ?_;first|refine Q50 ?_|with_reducible (first|refine Bi (λhb=>?_) (λhb=>?_)|refine Br _ (qf4 _ _ _ b hbb false rfl) ?_|refine Bb (q3f _ _ _ hz16 hbb hb0) ?_|refine Br _ (qf4 _ _ _ _ (xA hm hbb) true rfl) ?_)|refine Q6G ?_|fail)
 .exfalso;simp at hb;omega
 all_goals
  rename_i hx
  have e1:=qok z b hb0
  have e2:=qq2 z b hb0
  simp only[wz]
  rw[e2,e1]
  first
   | (rw[if_pos ⟨by simpa using hx,by simpa using hb⟩];simp)
   | (rw[if_neg (by simp at hx hb ⊢;omega)];simp)
theorem jcg(b:Nat):wz (b:Int)=.agg ⟨wiL false false b⟩:=by unfold wz;rw[xe Q8E,yU]
theorem qzv{b:Int}(hb:0<b):∃n:Nat,b=(n:Int)/\0<n:=⟨b.toNat,by omega,by omega⟩
theorem cDivG(z b:Int)(h:Hp)(hz:z.natAbs<Top)(hb0:0<b)(hbb:b.natAbs<Top):qae prog 195 [wz z,wz b] h (.tuple #[wz (z / b),xc 0]) [] []:=by
 obtain⟨n,rfl,hn⟩:=qzv hb0;exact qai Q8Z Q9A (call195 _) λw=>by
  have:=jn9 z n hz hn (xA hbb qbw) w;rw[jcg];exact this
theorem qom(z b:Int)(hz:z.natAbs<Top)(hb0:0<b):(z / b).natAbs<Top:=by
 obtain⟨n,rfl,hn⟩:=qzv hb0;exact qol z n hz hn
theorem q3h(z:Int)(w:World):xa 244 #[wz z] w (.bool false):=by
 refine qac (G:=tys) w tysOK mixed func244 Q8F Q8H Q8G ?_;repeat' (refine Ba ?_;first|refine Q4Z ?_|fail)
 all_goals rfl
theorem qed(z:Int)(h:Hp):qae prog 244 [wz z] h (.bool false) [] []:=qai Q8Z rfl (call244 _) (q3h z)
theorem q8g(a b:Int)(hb0:0<b)(hbb:b.natAbs<Top)(w:World):xa 245 #[wz a,wz b] w (xc 0):=by
 have hs:¬ sgn b<=0:=by have:=qog b;omega
 refine qac (G:=tys) w tysOK mixed func245 Q8F Q8H Q8G ?_;repeat' (refine Ba ?_;first|refine Q4Z ?_|with_reducible (first|refine Bb (qed _ _) ?_|refine Bb (jht _ _ hbb) ?_)|refine Bf (by rw[xj];exact hs) ?_|fail)
 all_goals rfl
theorem cFit(a b:Int)(h:Hp)(hb0:0<b)(hbb:b.natAbs<Top):qae prog 245 [wz a,wz b] h (xc 0) [] []:=qai Q8Z rfl (call245 _) (q8g a b hb0 hbb)
theorem qzw(z b:Int)(hz:z.natAbs<Top)(hb0:0<b)(hbb:b.natAbs<Top)(w:World):xa 196 #[wz z,wz b] w (.tuple #[wz (-(-z / b)),xc 0]):=by
 have h1:(-z / b).natAbs<Top:=qom _ _ Q9H hb0;have h0:(-z).natAbs<Top:=by rwa[yA]
 refine Q3f ?_;repeat' (refine Ba ?_;first|refine Q4Z ?_|with_reducible (first|refine Bb (jlm _ _ Q92) ?_|refine Bb (cDivG _ _ _ h0 hb0 hbb) ?_)|fail)
 all_goals rfl
theorem q8h(z b:Int)(h:Hp)(hz:z.natAbs<Top)(hb0:0<b)(hbb:b.natAbs<Top):qae prog 196 [wz z,wz b] h (.tuple #[wz (-(-z / b)),xc 0]) [] []:=qai Q8Z Q9A (call196 _) (qzw z b hz hb0 hbb)
theorem qzx(a b:Int)(ha:a.natAbs<Top)(hb0:0<b)(hbb:b.natAbs<Top)(w:World):xa 232 #[wz a,wz b] w (.tuple #[xc (n64 (a / b)),xc (e64 (a / b))]):=by
 have m4:(a / b).natAbs<Top:=qom _ _ ha hb0;refine qac (G:=tys) w tysOK mixed func232 Q8F Q8H Q8G ?_;repeat' (refine Ba ?_;first|refine Q4Z ?_|with_reducible refine Bb (cFit _ _ _ hb0 hbb) ?_|refine Q5d ?_|with_reducible refine Bb (cDivG _ _ _ ha hb0 hbb) ?_|refine Q6Z ?_|fail)
 all_goals rfl
theorem qzy(a b:Int)(h:Hp)(ha:a.natAbs<Top)(hb0:0<b)(hbb:b.natAbs<Top):qae prog 232 [wz a,wz b] h (.tuple #[xc (n64 (a / b)),xc (e64 (a / b))]) [] []:=qai Q8Z rfl (call232 _) (qzx a b ha hb0 hbb)
theorem q3i(a b:Int)(ha:a.natAbs<Top)(hb0:0<b)(hbb:b.natAbs<Top)(w:World):xa 231 #[wz a,wz b] w (.tuple #[xc (n64 (-(-a / b))),xc (e64 (-(-a / b)))]):=by
 have m4:(-(-a / b)).natAbs<Top:=by rw[yA];exact qom _ _ Q9H hb0
 refine qac (G:=tys) w tysOK mixed func231 Q8F Q8H Q8G ?_;repeat' (refine Ba ?_;first|refine Q4Z ?_|with_reducible refine Bb (cFit _ _ _ hb0 hbb) ?_|refine Q5d ?_|with_reducible refine Bb (q8h _ _ _ ha hb0 hbb) ?_|refine Q6Z ?_|fail)
 all_goals rfl
theorem jch(a b:Int)(h:Hp)(ha:a.natAbs<Top)(hb0:0<b)(hbb:b.natAbs<Top):qae prog 231 [wz a,wz b] h (.tuple #[xc (n64 (-(-a / b))),xc (e64 (-(-a / b)))]) [] []:=qai Q8Z rfl (call231 _) (q3i a b ha hb0 hbb)
theorem q3j(a b:Int)(ha:a.natAbs<Top)(ha2:(a+a).natAbs<Top)(ha3:(a+a+b).natAbs<Top)(hb0:0<b)(hbb:b.natAbs<Top)(hb2:(b+b).natAbs<Top)(w:World):xa 230 #[wz a,wz b] w (.tuple #[xc (n64 ((a+a+b) / (b+b))),xc (e64 ((a+a+b) / (b+b)))]):=by
 refine qac (G:=tys) w tysOK mixed func230 Q8F Q8H Q8G ?_;repeat' (refine Ba ?_;first|refine Q4Z ?_|with_reducible refine Bb (cFit _ _ _ hb0 hbb) ?_|refine Q5d ?_|with_reducible (first|refine Bb (jgw _ _ _ Q92 Q92 Q92) ?_|refine Bb (qzy _ _ _ ha3 Q8E hb2) ?_)|fail)
 all_goals rfl
theorem jci(a b:Int)(h:Hp)(ha:a.natAbs<Top)(ha2:(a+a).natAbs<Top)(ha3:(a+a+b).natAbs<Top)(hb0:0<b)(hbb:b.natAbs<Top)(hb2:(b+b).natAbs<Top):qae prog 230 [wz a,wz b] h (.tuple #[xc (n64 ((a+a+b) / (b+b))),xc (e64 ((a+a+b) / (b+b)))]) [] []:=qai Q8Z rfl (call230 _) (q3j a b ha ha2 ha3 hb0 hbb hb2)
theorem jgf(z:Int):0<=z*z:=by
 rcases Int.le_total 0 z with h|h
 .exact x9 h h
 .exact Int.mul_nonneg_of_nonpos_of_nonpos h h
variable{z:Int}
theorem qzz{m:Int}(hm:0<=m)(h:z*z<=m*m):z<=m/\-z<=m:=by
 constructor
 .refine Int.not_lt.1 λhz=>?_
  have h1:=zA (Int.le_of_lt hz) hm;have h2:=Int.mul_lt_mul_of_pos_right hz (by omega:0<z);omega
 .refine Int.not_lt.1 λhz=>?_
  have h1:=zA (Int.le_of_lt hz) hm;have h3:=Int.mul_lt_mul_of_pos_right hz (by omega:0 < -z);have h2 : -z * -z=z*z:=by grind
  omega
open Go Go.RowKit Sx
structure Inf where
 A:Int
 B:Int
 D:Int
 U:Int
 V:Int
 Z:Int
 Den:Int
def Inf.val(i:Inf)(X Y:Int):Int:=i.A*(X*X)+2*(i.B*(X*Y))+i.D*(Y*Y)-2*(i.U*X+i.V*Y)+i.Z
def Inf.holds(i:Inf)(X Y:Int):Prop:=i.val X Y<=i.Den
def jqm(cx cy a b d:Int):Inf:=⟨d,-b,a,d*cx + -b*cy,-b*cx+a*cy,jfo d (-b) a cx cy,a*d-b*b⟩
def jqn(ox oy hx hy lo hi:Int):Inf:=⟨2*hx*(2*hx),2*hx*(2*hy),2*hy*(2*hy),(lo+hi+2*hx*ox+2*hy*oy)*(2*hx),(lo+hi+2*hx*ox+2*hy*oy)*(2*hy),(lo+hi+2*hx*ox+2*hy*oy)*(lo+hi+2*hx*ox+2*hy*oy),(hi-lo)*(hi-lo)⟩
def jir(i j:Inf)(w:Int):Inf:=
 ⟨i.A*(w*j.Den)+j.A*((34-w)*i.Den),i.B*(w*j.Den)+j.B*((34-w)*i.Den),i.D*(w*j.Den)+j.D*((34-w)*i.Den),i.U*(w*j.Den)+j.U*((34-w)*i.Den),i.V*(w*j.Den)+j.V*((34-w)*i.Den),i.Z*(w*j.Den)+j.Z*((34-w)*i.Den),34*(i.Den*j.Den)⟩
def Inf.d(i:Inf):Int:=i.A*i.D-i.B*i.B
def Inf.x(i:Inf):Int:=i.D*i.U-i.B*i.V
def Inf.y(i:Inf):Int:=i.A*i.V-i.B*i.U
def Inf.level(i:Inf):Int:=(i.Den-i.Z)*i.d+((i.D*(i.U*i.U)+i.A*(i.V*i.V)) + -(2*(i.B*(i.U*i.V))))
def jqo(a b d s t:Int):Int:=a*(s*s)+2*(b*(s*t))+d*(t*t)
def dom(a b d u v q:Int):Prop:=∀s t:Int,(u*s+v*t)*(u*s+v*t)<=q*q*jqo a b d s t
def jen(p s:Int):Int:=-(-p / s)
def jer(x d:Int):Int:=(x+x+d) / (d+d)
structure El where
 x:Int
 y:Int
 a:Int
 b:Int
 d:Int
def El.may(e:El):Prop:=mayP e.x e.y e.a e.b e.d
instance(e:El):Decidable e.may:=by unfold El.may;infer_instance
def El.tr(e:El):Int:=if e.may then e.a+e.d else 0
abbrev El.o:El:=⟨0,0,0,0,0⟩
def El.at(e:El)(X Y:Int):Prop:=quj e.a e.b e.d (X-e.x) (Y-e.y)
def El.rad(e:El):Nat:=usq e.tr.toNat
def jlp(e f:El):El:=
 ⟨e.x+f.x,e.y+f.y,jen (((e.rad:Int)+f.rad)*e.a) e.rad+jen (((e.rad:Int)+f.rad)*f.a) f.rad+2,((e.rad:Int)+f.rad)*e.b / e.rad+((e.rad:Int)+f.rad)*f.b / f.rad,jen (((e.rad:Int)+f.rad)*e.d) e.rad+jen (((e.rad:Int)+f.rad)*f.d) f.rad+2⟩
def jhv(e f:El):El×Int:=if e.may/\f.may then (if (jlp e f).may then (jlp e f,0) else (El.o,2)) else (El.o,1)
def jez(x y r:Int):El:=⟨x,y,r*r,0,r*r⟩
def qfp(e:El)(r:Int):El×Int:=if e.may/\0<=r/\r<=4194304 then (if r=0 then (e,0) else jhv e (jez 0 0 r)) else (El.o,1)
def jgx(e:El)(speed ticks:Int):El×Int:=if e.may/\0<=speed/\0<=ticks then (if 0<ticks/\4194304 / ticks<speed then (El.o,2) else qfp e (speed*ticks)) else (El.o,1)
def Inf.mid(i:Inf):El:=⟨jer i.x i.d,jer i.y i.d,jen (i.level*i.D) (i.d*i.d)+1,-(i.level*i.B) / (i.d*i.d),jen (i.level*i.A) (i.d*i.d)+1⟩
def jif(i:Inf):El×Int:=if i.A<=0\/i.d<=0 then (El.o,1) else if i.level<0 then (El.o,3) else if i.mid.may then qfp i.mid 1 else (El.o,2)
def El.inf(e:El):Inf:=jqm e.x e.y e.a e.b e.d
def jel(e f:El)(w:Int):El×Int:=if 0<=w/\w<=34 then jif (jir e.inf f.inf w) else (El.o,1)
structure Strip where
 ox:Int
 oy:Int
 hx:Int
 hy:Int
 lo:Int
 hi:Int
def Strip.may(s:Strip):Prop:=qaz 4194304 s.ox s.oy/\qaz 16777216 s.hx s.hy/\¬ (s.hx=0/\s.hy=0)/\-1125899906842624<=s.lo/\s.lo<s.hi/\s.hi<=1125899906842624
instance(s:Strip):Decidable s.may:=by unfold Strip.may;infer_instance
def Strip.inf(s:Strip):Inf:=jqn s.ox s.oy s.hx s.hy s.lo s.hi
def jem(e:El)(s:Strip)(w:Int):El×Int:=if 0<=w/\w<=34 then jif (jir e.inf s.inf w) else (El.o,1)
structure GV where
 n:Int
 ok:Bool
def GV.most(v w:GV):Bool:=!w.ok||(v.ok&&decide (v.n<=w.n))
structure GS where
 w:Int
 best:GV
 emp:Bool
def je8(of:Int->El×Int)(w:Int):GV:=⟨(of w).1.tr,decide ((of w).2=0)⟩
def GS.ask(of:Int->El×Int)(s:GS)(w:Int):GS:=
 if (je8 of w).ok&&(!s.best.ok||decide ((je8 of w).n<s.best.n)||(decide ((je8 of w).n=s.best.n)&&decide (w<s.w))) then ⟨w,je8 of w,s.emp||decide ((of w).2=3)⟩ else ⟨s.w,s.best,s.emp||decide ((of w).2=3)⟩
structure GL where
 a:Int
 b:Int
 x:Int
 y:Int
 fx:GV
 fy:GV
 s:GS
def GL.left(of:Int->El×Int)(l:GL):GL:=
 if l.a+l.y-l.x=l.x then ⟨l.a,l.y,l.a+l.y-l.x,l.x,l.fx,l.fx,l.s⟩ else ⟨l.a,l.y,l.a+l.y-l.x,l.x,je8 of (l.a+l.y-l.x),l.fx,l.s.ask of (l.a+l.y-l.x)⟩
def GL.right(of:Int->El×Int)(l:GL):GL:=
 if l.x+l.b-l.y=l.y then ⟨l.x,l.b,l.y,l.x+l.b-l.y,l.fy,l.fy,l.s⟩ else ⟨l.x,l.b,l.y,l.x+l.b-l.y,l.fy,je8 of (l.x+l.b-l.y),l.s.ask of (l.x+l.b-l.y)⟩
def GL.step(of:Int->El×Int)(l:GL):GL:=if l.fx.most l.fy then l.left of else l.right of
def GS.first(of:Int->El×Int)(e:Bool):GS:=(GS.ask of ⟨0,⟨0,false⟩,e⟩ 13).ask of 21
def GL.start(of:Int->El×Int)(e:Bool):GL:=⟨0,34,13,21,je8 of 13,je8 of 21,GS.first of e⟩
def GL.go(of:Int->El×Int)(e:Bool):Nat->GL
 | 0=>GL.start of e
 | n+1=>(GL.go of e n).step of
def gwide:Nat->Int×Int×Int
 | 0=>(34,13,21)
 | 1=>(21,8,13)
 | 2=>(13,5,8)
 | 3=>(8,3,5)
 | 4=>(5,2,3)
 | 5=>(3,1,2)
 | _=>(2,1,1)
theorem qdz(of:Int->El×Int)(e:Bool):∀n,n<=6->(GL.go of e n).b=(GL.go of e n).a+(gwide n).1/\(GL.go of e n).x=(GL.go of e n).a+(gwide n).2.1/\(GL.go of e n).y=(GL.go of e n).a+(gwide n).2.2/\0<=(GL.go of e n).a/\(GL.go of e n).b<=34:=by
 intro n
 induction n with
 | zero=>intro _;simp[GL.go,GL.start,gwide]
 | succ n ih=>
  intro hn;obtain⟨h1,h2,h3,h4,h5⟩:=ih Q8E;have hn':n=0\/n=1\/n=2\/n=3\/n=4\/n=5:=by omega
  simp only[GL.go];generalize GL.go of e n=l at *;unfold GL.step GL.left GL.right;rcases hn' with rfl|rfl|rfl|rfl|rfl|rfl<;>simp only[gwide] at *<;>(split<;>split<;>simp only[]<;>omega)
def lesser(out x:El):El:=if x.tr<out.tr then x else out
def qbn(e:El)(of:Int->El×Int)(more:List El):El×Int:=
 if (GL.go of false 6).s.emp then (El.o,3) else ((([e]++(if (GL.go of false 6).s.best.ok then [(of (GL.go of false 6).s.w).1] else []))++more).foldl lesser e,0)
def jes(e f:El):El×Int:=if e.may/\f.may then qbn e (jel e f) [f] else (El.o,1)
def jf4(e:El)(s:Strip):El×Int:=if e.may/\s.may then qbn e (jem e s) [] else (El.o,1)
variable{e:El}
theorem q8i(h:e.may):(0:Int)<e.rad:=by
 grind[El.may,mayP,El.tr,El.rad,usq]
theorem q3k{f r:El}(h:jhv e f=(r,0)):r.may/\e.may/\f.may/\r=jlp e f:=by
 grind[jhv]
theorem qq3{g:El}{r:Int}(h:qfp e r=(g,0)):g.may/\e.may:=by
 unfold qfp at h;split at h
 .rename_i h1;split at h
  .simp_all
  .exact⟨(q3k h).1,h1.1⟩
 simp_all
theorem q3l{g:El}{s k:Int}(h:jgx e s k=(g,0)):g.may:=by
 grind[jgx,qq3]
theorem qz0{i:Inf}{g:El}(h:jif i=(g,0)):g.may:=by
 grind[jif,qq3]
def GS.good(of:Int->El×Int)(s:GS):Prop:=s.best.ok=true->s.best=je8 of s.w
theorem qon{of:Int->El×Int}{s:GS}(h:s.good of)(w:Int):(s.ask of w).good of/\((∀w,(of w).2≠3)->s.emp=false->(s.ask of w).emp=false):=by
 unfold GS.ask;split
 .exact⟨λ_=>rfl,λh3 he=>by simp[he,h3 w]⟩
 .exact⟨h,λh3 he=>by simp[he,h3 w]⟩
theorem qz1{of:Int->El×Int}{l:GL}(h:l.s.good of):(l.step of).s.good of/\((∀w,(of w).2≠3)->l.s.emp=false->(l.step of).s.emp=false):=by
 grind[GL.step,GL.left,GL.right,qon]
theorem q8j(of:Int->El×Int):∀n,(GL.go of false n).s.good of/\((∀w,(of w).2≠3)->(GL.go of false n).s.emp=false):=by
 intro n
 induction n with
 | zero=>
  have h0:GS.good of ⟨0,⟨0,false⟩,false⟩:=λh=>by cases h
  have h1:=qon h0 13;have h2:=qon h1.1 21;exact⟨h2.1,λh3=>h2.2 h3 (h1.2 h3 rfl)⟩
 | succ n ih=>
  have h1:=qz1 ih.1;exact⟨h1.1,λh3=>h1.2 h3 (ih.2 h3)⟩
theorem qsq(P:El->Prop):∀(l:List El)(o:El),P o->(∀x∈l,P x)->P (l.foldl lesser o)/\(l.foldl lesser o).tr<=o.tr:=by
 intro l
 induction l with
 | nil=>exact λo h _=>⟨h,Int.le_refl _⟩
 | cons a l ih=>
  intro o h hl;have h1:P (lesser o a)/\(lesser o a).tr<=o.tr:=by
   grind[lesser]
  grind
theorem qh4(P:El->Prop){of:Int->El×Int}{more:List El}(he:P e)(hof:∀w g,of w=(g,0)->P g)(hm:∀f∈more,P f){r:El}{c:Int}(h:qbn e of more=(r,c)):(c=0/\P r/\r.tr<=e.tr)\/c=3/\r=El.o:=by
 unfold qbn at h;split at h
 .simp_all
 .injection h with h1 h2;left;refine⟨h2.symm,?_⟩;subst h1;refine qsq P _ e he λx hx=>?_
  simp only[yJ,xi,xD,or_false] at hx;rcases hx with (rfl|hx)|hx
  .exact he
  .split at hx
   .rename_i hok;simp only[xi,xD,or_false] at hx;subst hx;have:=(q8j of 6).1 hok
    grind[je8]
   .cases hx
  simp_all
open Go Go.RowKit Sx
abbrev gc(x:Int):Chunk:=⟨true,1,[(0,1,xc x)]⟩
abbrev gcR(x:Int):Chunk:=⟨false,1,[(0,1,xc x)]⟩
theorem g1{p:Nat->Prop}(h:p 0):∀j,j<1->p j:=by simp_all
theorem qq4(w:World)(ts:Array TypeId)(t:TypeId)(k:IntKind)(x y z:Int):(Builtin.max_ ts t #[.int k x,.int k y,.int k z]).run prog w=.ok (.int k (if z > (if y > x then y else x) then z else (if y > x then y else x))) w:=by
 rfl
theorem N.max3{ts:Array TypeId}{t:TypeId}{k:IntKind}{x y:Int}{K:Value->Prop}(h:K (.int k (max (max x y) z))):N (qs9 prog .max ts t [.int k x,.int k y,.int k z] K):=by
 refine N.mk ⟨.int k (max (max x y) z),⟨rfl,rfl,λcs w=>?_⟩,h⟩;have e:(if y > x then y else x)=max x y:=by split<;>omega
 have e2:(if z > max x y then z else max x y)=max (max x y) z:=by split<;>omega
 show(do pure (Next.value (<-Builtin.max_ ts t #[.int k x,.int k y,.int k z])):Sem _).run prog w=_;rw[Sem.run_bind,qq4,e,e2];rfl
abbrev fnV(g:FuncId):Value:=.func (.func g) #[] #[]
theorem qur(s t:Nat)(x y bad:Int)(hs:0<s/\s<1073741824)(ht:0<t/\t<1073741824)(hx : -9223372036854775808<=x/\x<9223372036854775808)(hy : -9223372036854775808<=y/\y<9223372036854775808)(i j k:Nat)(h:Hp)(hi:h[i]?=some (some (gc (s:Int))))(hj:h[j]?=some (some (gc (t:Int))))(hk:h[k]?=some (some (gc bad)))(hne:i≠j/\i≠k/\j≠k):
  qae prog 223 [fnV 172,xc x,xc y,xd i,xd j,xd k] h (xc (IntKind.i64.wrap (n64 (-(-(IntKind.i64.wrap ((s:Int)+t)*x) / (s:Int)))+n64 (-(-(IntKind.i64.wrap ((s:Int)+t)*y) / (t:Int)))))) [(k,gc (max (max bad (e64 (-(-(IntKind.i64.wrap ((s:Int)+t)*x) / (s:Int))))) (e64 (-(-(IntKind.i64.wrap ((s:Int)+t)*y) / (t:Int))))))] [i,j]:=by
 have e1:IntKind.i64.wrap ((s:Int)+t)=(s:Int)+t:=jep _ Q8E Q8E
 refine qak (G:=tys) [⟨i,_,gcR (s:Int),⟨false,0,[]⟩⟩,⟨j,_,gcR (t:Int),⟨false,0,[]⟩⟩,⟨k,_,gc bad,gc (max (max bad (e64 (-(-(IntKind.i64.wrap ((s:Int)+t)*x) / (s:Int))))) (e64 (-(-(IntKind.i64.wrap ((s:Int)+t)*y) / (t:Int)))))⟩] [] [fnV 172,xc x,xc y,xd 0,xd 1,xd 2] tysOK mixed func223 Q8F (call223) ⟨hi,hj,hk,xb⟩ ⟨Q7Y,Q7Y,Q7Q,xb⟩ Q9T xb Q8D ?_
 repeat' (refine Ba ?_;first|refine Q4Z ?_|refine Bb (qlo (IntKind.i64.wrap ((s:Int)+t)) x s _ Q8E Q8E hx.1 hx.2 Q8E Q8E) ?_|refine Bb (qlo (IntKind.i64.wrap ((s:Int)+t)) y t _ Q8E Q8E hy.1 hy.2 Q8E Q8E) ?_|with_reducible refine N.max3 ?_|refine Q5S ?_|refine Q5H ?_|exact Be|fail)
theorem q5y(s t:Nat)(x y bad:Int)(hs:0<s/\s<1073741824)(ht:0<t/\t<1073741824)(hx : -9223372036854775808<=x/\x<9223372036854775808)(hy : -9223372036854775808<=y/\y<9223372036854775808)(i j k:Nat)(h:Hp)(hi:h[i]?=some (some (gc (s:Int))))(hj:h[j]?=some (some (gc (t:Int))))(hk:h[k]?=some (some (gc bad)))(hne:i≠j/\i≠k/\j≠k):
  qae prog 223 [fnV 171,xc x,xc y,xd i,xd j,xd k] h (xc (IntKind.i64.wrap (n64 (IntKind.i64.wrap ((s:Int)+t)*x / (s:Int))+n64 (IntKind.i64.wrap ((s:Int)+t)*y / (t:Int))))) [(k,gc (max (max bad (e64 (IntKind.i64.wrap ((s:Int)+t)*x / (s:Int)))) (e64 (IntKind.i64.wrap ((s:Int)+t)*y / (t:Int)))))] [i,j]:=by
 have e1:IntKind.i64.wrap ((s:Int)+t)=(s:Int)+t:=jep _ Q8E Q8E
 refine qak (G:=tys) [⟨i,_,gcR (s:Int),⟨false,0,[]⟩⟩,⟨j,_,gcR (t:Int),⟨false,0,[]⟩⟩,⟨k,_,gc bad,gc (max (max bad (e64 (IntKind.i64.wrap ((s:Int)+t)*x / (s:Int)))) (e64 (IntKind.i64.wrap ((s:Int)+t)*y / (t:Int))))⟩] [] [fnV 171,xc x,xc y,xd 0,xd 1,xd 2] tysOK mixed func223 Q8F (call223) ⟨hi,hj,hk,xb⟩ ⟨Q7Y,Q7Y,Q7Q,xb⟩ Q9T xb Q8D ?_
 repeat' (refine Ba ?_;first|refine Q4Z ?_|refine Bb (qsp (IntKind.i64.wrap ((s:Int)+t)) x s _ Q8E Q8E hx.1 hx.2 Q8E Q8E) ?_|refine Bb (qsp (IntKind.i64.wrap ((s:Int)+t)) y t _ Q8E Q8E hy.1 hy.2 Q8E Q8E) ?_|with_reducible refine N.max3 ?_|refine Q5S ?_|refine Q5H ?_|exact Be|fail)
def puV(s t:Nat)(x y:Int):Int:=IntKind.i64.wrap (n64 (-(-(IntKind.i64.wrap ((s:Int)+t)*x) / (s:Int)))+n64 (-(-(IntKind.i64.wrap ((s:Int)+t)*y) / (t:Int))))
def plV(s t:Nat)(x y:Int):Int:=IntKind.i64.wrap (n64 (IntKind.i64.wrap ((s:Int)+t)*x / (s:Int))+n64 (IntKind.i64.wrap ((s:Int)+t)*y / (t:Int)))
def puE(s t:Nat)(x y bad:Int):Int:=max (max bad (e64 (-(-(IntKind.i64.wrap ((s:Int)+t)*x) / (s:Int))))) (e64 (-(-(IntKind.i64.wrap ((s:Int)+t)*y) / (t:Int))))
def plE(s t:Nat)(x y bad:Int):Int:=max (max bad (e64 (IntKind.i64.wrap ((s:Int)+t)*x / (s:Int)))) (e64 (IntKind.i64.wrap ((s:Int)+t)*y / (t:Int)))
variable{a:Int}
theorem ji7{cx cy b d:Int}(h:mayP cx cy a b d):0<usq (trP cx cy a b d).toNat/\usq (trP cx cy a b d).toNat<1073741824:=by
 have hm:=h;unfold mayP at hm;have e:trP cx cy a b d=a+d:=if_pos h;rw[e];have h1:=q5r (a+d).toNat;have h2:usq (a+d).toNat<=16777216:=qza Q8E
 grind
theorem neF(h:a=0):(!(a==0))=false:=by subst h;rfl
theorem neT(h:¬ a=0):(!(a==0))=true:=by simpa using h
theorem ndF{P:Prop}[Decidable P](h:P):(!decide P)=false:=by simp_all
theorem ndT{P:Prop}[Decidable P](h:¬ P):(!decide P)=true:=by simp_all
theorem q8k(ex ey ea eb ed fx fy fa fb fd:Int)(he:mayP ex ey ea eb ed)(hf:mayP fx fy fa fb fd)(hb:plE (usq (trP ex ey ea eb ed).toNat) (usq (trP fx fy fa fb fd).toNat) eb fb (puE (usq (trP ex ey ea eb ed).toNat) (usq (trP fx fy fa fb fd).toNat) ed fd (puE (usq (trP ex ey ea eb ed).toNat) (usq (trP fx fy fa fb fd).toNat) ea fa 0))=0)(hm:mayP (IntKind.i64.wrap (ex+fx)) (IntKind.i64.wrap (ey+fy)) (IntKind.i64.wrap (puV (usq (trP ex ey ea eb ed).toNat) (usq (trP fx fy fa fb fd).toNat) ea fa+2)) (plV (usq (trP ex ey ea eb ed).toNat) (usq (trP fx fy fa fb fd).toNat) eb fb) (IntKind.i64.wrap (puV (usq (trP ex ey ea eb ed).toNat) (usq (trP fx fy fa fb fd).toNat) ed fd+2)))(w:World):xa 206 #[elV ex ey ea eb ed,elV fx fy fa fb fd] w (.tuple #[elV (IntKind.i64.wrap (ex+fx)) (IntKind.i64.wrap (ey+fy)) (IntKind.i64.wrap (puV (usq (trP ex ey ea eb ed).toNat) (usq (trP fx fy fa fb fd).toNat) ea fa+2)) (plV (usq (trP ex ey ea eb ed).toNat) (usq (trP fx fy fa fb fd).toNat) eb fb) (IntKind.i64.wrap (puV (usq (trP ex ey ea eb ed).toNat) (usq (trP fx fy fa fb fd).toNat) ed fd+2)),xc 0]):=by
 have hs:=ji7 he;have ht:=ji7 hf;have he2:=he;have hf2:=hf;unfold mayP at he2 hf2;refine qac (G:=tys) w tysOK mixed func206 Q8F Q8F Q8F ?_;repeat' (refine Ba ?_;first|refine Q4Z ?_|refine Q5A ?_|refine Bf (ndF hm) ?_|fail)
 all_goals rfl
theorem q8l(ex ey ea eb ed fx fy fa fb fd:Int)(he:mayP ex ey ea eb ed)(hf:mayP fx fy fa fb fd)(hb:plE (usq (trP ex ey ea eb ed).toNat) (usq (trP fx fy fa fb fd).toNat) eb fb (puE (usq (trP ex ey ea eb ed).toNat) (usq (trP fx fy fa fb fd).toNat) ed fd (puE (usq (trP ex ey ea eb ed).toNat) (usq (trP fx fy fa fb fd).toNat) ea fa 0))=0)(hm:¬ mayP (IntKind.i64.wrap (ex+fx)) (IntKind.i64.wrap (ey+fy)) (IntKind.i64.wrap (puV (usq (trP ex ey ea eb ed).toNat) (usq (trP fx fy fa fb fd).toNat) ea fa+2)) (plV (usq (trP ex ey ea eb ed).toNat) (usq (trP fx fy fa fb fd).toNat) eb fb) (IntKind.i64.wrap (puV (usq (trP ex ey ea eb ed).toNat) (usq (trP fx fy fa fb fd).toNat) ed fd+2)))(w:World):xa 206 #[elV ex ey ea eb ed,elV fx fy fa fb fd] w (.tuple #[elV 0 0 0 0 0,xc 2]):=by
 have hs:=ji7 he;have ht:=ji7 hf;have he2:=he;have hf2:=hf;unfold mayP at he2 hf2;refine qac (G:=tys) w tysOK mixed func206 Q8F Q8F Q8F ?_;repeat' (refine Ba ?_;first|refine Q4Z ?_|refine Q5A ?_|refine Bg (ndT hm) ?_|fail)
 all_goals rfl
theorem q3m(x y a b d r:Int)(he:mayP x y a b d)(hr:r=0)(w:World):xa 188 #[elV x y a b d,xc r] w (.tuple #[elV x y a b d,xc 0]):=by
 refine qac (G:=tys) w tysOK mixed func188 Q8F Q8F Q8F ?_;repeat' (refine Ba ?_;first|refine Q4Z ?_|refine Q5L ?_|refine Bf Q9R ?_|refine Q5U ?_|refine Bg (by rw[hr];rfl) ?_|fail)
 all_goals rfl
theorem q3n(x y a b d r:Int)(he:mayP x y a b d)(hr:0<r/\r<=4194304)(x' y' a' b' d' g:Int)(hS:∀h:Hp,qae prog 206 [elV x y a b d,elV 0 0 (r*r) 0 (r*r)] h (.tuple #[elV x' y' a' b' d',xc g]) [] [])(w:World):xa 188 #[elV x y a b d,xc r] w (.tuple #[elV x' y' a' b' d',xc g]):=by
 refine qac (G:=tys) w tysOK mixed func188 Q8F Q8F Q8F ?_;repeat' (refine Ba ?_;first|refine Q4Z ?_|refine Q5L ?_|refine Bf Q9R ?_|refine Q5U ?_|refine Bb (qli 0 0 r _ Q8I Q8E) ?_|refine Q5d ?_|refine Bb (hS _) ?_|fail)
 all_goals rfl
theorem qus{x y r:Int}(h:qaz 4194304 x y)(hr:0<r/\r<=4194304):mayP x y (r*r) 0 (r*r):=by
 have h1:1*1<=r*r:=yC Q8E Q8E Q8E Q8E;have h2:r*r<=4194304*4194304:=yC Q8E Q8E Q8E Q8E;have h3:1*1<=(r*r)*(r*r):=yC Q8E Q8E Q8E Q8E;refine⟨h,by omega,by omega,by omega,by omega⟩
theorem qz2{x s c:Int}(hs:0<s)(h:x<=s*c):jen x s<=c:=by
 unfold jen;have h1 : -c<=-x / s:=Int.le_ediv_of_mul_le hs (by rw[Int.neg_mul,Int.mul_comm];omega);omega
theorem qz3{x s:Int}(hs:0<s)(h:0<=x):0<=jen x s:=by
 unfold jen;have h1 : -x / s<=0:=by
  have:=Int.ediv_le_ediv (a:=-x) (b:=0) hs Q8E;rwa[Int.zero_ediv] at this
 omega
theorem qut{x s c:Int}(hs:0<s)(h1 : -(s*c)<=x)(h2:x<=s*c): -c<=x / s/\x / s<=c:=by
 constructor
 .exact Int.le_ediv_of_mul_le hs (by rw[Int.neg_mul,Int.mul_comm];exact h1)
 .have:=Int.ediv_le_ediv hs h2;rwa[Int.mul_ediv_cancel_left _ Q8E] at this
theorem qdu(h : -9223372036854775808<=z/\z<9223372036854775808):n64 z=z/\e64 z=0:=by
 obtain⟨h1,h2⟩:=qmy h;exact⟨h2,by unfold e64;rw[h1];rfl⟩
theorem qlp(h:e.may):(usq (trP e.x e.y e.a e.b e.d).toNat:Nat)=e.rad/\(1<=(e.rad:Int)/\(e.rad:Int)<=16777216)/\e.a<=e.rad*e.rad/\e.d<=e.rad*e.rad/\-(e.rad*e.rad:Int)<=e.b/\e.b<=e.rad*e.rad:=by
 have hm:=h;unfold El.may mayP at hm;have ht:=show e.tr=e.a+e.d by unfold El.tr;rw[if_pos h]
 have h1:=q5r e.tr.toNat;have h2:usq e.tr.toNat<=16777216:=qza Q8E;have h3:((e.tr.toNat:Nat):Int)<=((usq e.tr.toNat*usq e.tr.toNat:Nat):Int):=by exact_mod_cast h1
 rw[yh] at h3;have h4:=q8i h;have hb : -(e.a+e.d)<=e.b/\e.b<=e.a+e.d:=by
  have h5:e.b*e.b<=(e.a+e.d)*(e.a+e.d):=by
   have e1:(e.a+e.d)*(e.a+e.d)=e.a*e.d+(e.a*e.d+e.a*e.a+e.d*e.d):=by grind
   have h6:=x9 (show 0<=e.a by omega) (show 0<=e.d by omega);have h7:=jgf e.a;have h8:=jgf e.d;omega
  have:=qzz (m:=e.a+e.d) Q8E h5;omega
 refine⟨rfl,⟨by omega,by unfold El.rad;omega⟩,?_⟩;unfold El.rad;omega
theorem qoo{s t x:Int}(hs:1<=s/\s<=16777216)(ht:1<=t/\t<=16777216)(h1 : -(s*s)<=x)(h2:x<=s*s): -((s*((s+t)*s)))<=(s+t)*x/\(s+t)*x<=s*((s+t)*s)/\(s+t)*s<=562949953421312:=by
 have e:s*((s+t)*s)=(s+t)*(s*s):=by grind
 have a1:=zA h1 (by omega:0<=s+t);have a2:=zA h2 (by omega:0<=s+t);have e2:(s+t) * -(s*s) = -((s+t)*(s*s)):=by grind
 have a3:(s+t)*s<=33554432*16777216:=yC Q8E hs.2 Q8E Q8E;refine⟨by omega,by omega,by omega⟩
theorem qwe{f:El}(he:e.may)(hf:f.may):
  puV e.rad f.rad e.a f.a=jen (((e.rad:Int)+f.rad)*e.a) e.rad+jen (((e.rad:Int)+f.rad)*f.a) f.rad/\puV e.rad f.rad e.d f.d=jen (((e.rad:Int)+f.rad)*e.d) e.rad+jen (((e.rad:Int)+f.rad)*f.d) f.rad/\
  plV e.rad f.rad e.b f.b=((e.rad:Int)+f.rad)*e.b / e.rad+((e.rad:Int)+f.rad)*f.b / f.rad/\
  plE e.rad f.rad e.b f.b (puE e.rad f.rad e.d f.d (puE e.rad f.rad e.a f.a 0))=0/\
  IntKind.i64.wrap (puV e.rad f.rad e.a f.a+2)=jen (((e.rad:Int)+f.rad)*e.a) e.rad+jen (((e.rad:Int)+f.rad)*f.a) f.rad+2/\IntKind.i64.wrap (puV e.rad f.rad e.d f.d+2)=jen (((e.rad:Int)+f.rad)*e.d) e.rad+jen (((e.rad:Int)+f.rad)*f.d) f.rad+2:=by
 obtain⟨_,hs,ea,ed,eb1,eb2⟩:=qlp he
 obtain⟨_,ht,fa,fd,fb1,fb2⟩:=qlp hf
 have hm:=he
 have hn:=hf
 unfold El.may mayP at hm hn
 generalize hS:(e.rad:Int)=s at *
 generalize hT:(f.rad:Int)=t at *
 have w1:IntKind.i64.wrap (s+t)=s+t:=jep _ Q8E Q8E
 have up:∀x y:Int,1<=x->x<=s*s->1<=y->y<=t*t->(0<=jen ((s+t)*x) s/\jen ((s+t)*x) s<=562949953421312)/\(0<=jen ((s+t)*y) t/\jen ((s+t)*y) t<=562949953421312):=by
  intro x y x1 x2 y1 y2;have p:=qoo hs ht (by have:=jgf s;omega : -(s*s)<=x) x2;have q:=qoo ht hs (by have:=jgf t;omega : -(t*t)<=y) y2;rw[Int.add_comm t s] at q;have n1:=x9 (by omega:0<=s+t) (by omega:0<=x);have n2:=x9 (by omega:0<=s+t) (by omega:0<=y);exact⟨⟨qz3 Q8E n1,Int.le_trans (qz2 Q8E p.2.1) p.2.2⟩,⟨qz3 Q8E n2,Int.le_trans (qz2 Q8E q.2.1) q.2.2⟩⟩
 have fl:(-562949953421312<=(s+t)*e.b / s/\(s+t)*e.b / s<=562949953421312)/\(-562949953421312<=(s+t)*f.b / t/\(s+t)*f.b / t<=562949953421312):=by
  have p:=qoo hs ht eb1 eb2;have q:=qoo ht hs fb1 fb2;rw[Int.add_comm t s] at q;have p2:=qut (by omega:0<s) p.1 p.2.1;have q2:=qut (by omega:0<t) q.1 q.2.1;omega
 have hA:=up e.a f.a Q8E ea Q8E fa
 have hD:=up e.d f.d Q8E ed Q8E fd
 unfold puV plV plE puE
 rw[hS,hT,w1]
 have c:∀x k:Int,-(-x / k)=jen x k:=λ_ _=>rfl
 simp only[c]
 have a1:=qdu (z:=jen ((s+t)*e.a) s) Q8E
 have a2:=qdu (z:=jen ((s+t)*f.a) t) Q8E
 have d1:=qdu (z:=jen ((s+t)*e.d) s) Q8E
 have d2:=qdu (z:=jen ((s+t)*f.d) t) Q8E
 have b1:=qdu (z:=(s+t)*e.b / s) Q8E
 have b2:=qdu (z:=(s+t)*f.b / t) Q8E
 rw[a1.1,a1.2,a2.1,a2.2,d1.1,d1.2,d2.1,d2.2,b1.1,b1.2,b2.1,b2.2]
 have wa:IntKind.i64.wrap (jen ((s+t)*e.a) s+jen ((s+t)*f.a) t)=jen ((s+t)*e.a) s+jen ((s+t)*f.a) t:=jep _ Q8E Q8E
 have wd:IntKind.i64.wrap (jen ((s+t)*e.d) s+jen ((s+t)*f.d) t)=jen ((s+t)*e.d) s+jen ((s+t)*f.d) t:=jep _ Q8E Q8E
 have wb:IntKind.i64.wrap ((s+t)*e.b / s+(s+t)*f.b / t)=(s+t)*e.b / s+(s+t)*f.b / t:=jep _ Q8E Q8E
 rw[wa,wd,wb]
 exact⟨rfl,rfl,rfl,by decide,jep _ Q8E Q8E,jep _ Q8E Q8E⟩
abbrev elE(e:El):Value:=elV e.x e.y e.a e.b e.d
theorem jcj(e f:El)(h:Hp)(he:e.may)(hf:f.may):qae prog 206 [elE e,elE f] h (.tuple #[elE (jhv e f).1,xc (jhv e f).2]) [] []:=by
 obtain⟨p1,p2,p3,p4,p5,p6⟩:=qwe he hf;have hm:=he;have hn:=hf;unfold El.may mayP qaz at hm hn;have r1:usq (trP e.x e.y e.a e.b e.d).toNat=e.rad:=(qlp he).1;have r2:usq (trP f.x f.y f.a f.b f.d).toNat=f.rad:=(qlp hf).1;have wx:IntKind.i64.wrap (e.x+f.x)=e.x+f.x:=jep _ Q8E Q8E;have wy:IntKind.i64.wrap (e.y+f.y)=e.y+f.y:=jep _ Q8E Q8E;have hiff:(jlp e f).may↔mayP (IntKind.i64.wrap (e.x+f.x)) (IntKind.i64.wrap (e.y+f.y)) (IntKind.i64.wrap (puV e.rad f.rad e.a f.a+2)) (plV e.rad f.rad e.b f.b) (IntKind.i64.wrap (puV e.rad f.rad e.d f.d+2)):=by
  rw[wx,wy,p5,p6,p3];exact Iff.rfl
 unfold jhv;rw[if_pos ⟨he,hf⟩];by_cases hmm:(jlp e f).may
 .rw[if_pos hmm];have hx:=hiff.1 hmm;have:=q8k e.x e.y e.a e.b e.d f.x f.y f.a f.b f.d he hf (by rw[r1,r2];exact p4) (by rw[r1,r2];exact hx);rw[r1,r2,wx,wy,p5,p6,p3] at this;exact qai rfl rfl (call206 _) this
 .rw[if_neg hmm];have hx:=λh=>hmm (hiff.2 h)
  exact qai rfl rfl (call206 _) (q8l e.x e.y e.a e.b e.d f.x f.y f.a f.b f.d he hf (by rw[r1,r2];exact p4) (by rw[r1,r2];exact hx))
theorem qz4(e:El)(r:Int)(h:Hp)(he:e.may)(hr:0<=r/\r<=4194304):qae prog 188 [elE e,xc r] h (.tuple #[elE (qfp e r).1,xc (qfp e r).2]) [] []:=by
 unfold qfp;rw[if_pos ⟨he,hr⟩];by_cases h0:r=0
 .rw[if_pos h0];exact qai rfl rfl (call188 _) (q3m e.x e.y e.a e.b e.d r he h0)
 .rw[if_neg h0];have hb:(jez 0 0 r).may:=(show mayP 0 0 (r*r) 0 (r*r) from qus Q8I Q8E);exact qai rfl rfl (call188 _) (q3n e.x e.y e.a e.b e.d r he Q8E _ _ _ _ _ _ λh=>jcj e (jez 0 0 r) h he hb)
open Go Go.RowKit Sx
theorem wz_re{w:Bool}(z:Int):((⟨false,18,[(0,18,wz z)]⟩:Chunk).own=true->(⟨w,18,[(0,18,wz z)]⟩:Chunk).own=true/\m<=(⟨w,18,[(0,18,wz z)]⟩:Chunk).n)/\(⟨false,18,[(0,18,wz z)]⟩:Chunk).n<=(⟨w,18,[(0,18,wz z)]⟩:Chunk).n/\qbh ix ⟨w,18,[(0,18,wz z)]⟩ ⟨false,18,[(0,18,wz z)]⟩:=wi_re _ _ _
theorem qwf(x p y q:Int):qap (.agg ⟨wiL (decide (x<0)) false x.natAbs++(wiL (decide (p<0)) false p.natAbs++(wiL (decide (y<0)) false y.natAbs++(wiL (decide (q<0)) false q.natAbs)))⟩)=true:=by
 have a:=qad x;have b:=qad p;have c:=qad y;have d:=qad q;simp only[qap,wz] at a b c d ⊢;simp only[List.all_append,a,b,c,d,za]
theorem ji8(x p y q:Int)(i:Nat)(o:Bool)(h:Hp)(hx:x.natAbs<Bs^16)(hp:p.natAbs<Bs^16)(hy:y.natAbs<Bs^16)(hq:q.natAbs<Bs^16)(h1:(x*p).natAbs<Top)(h2:(y*q).natAbs<Top)(h3:(x*p+y*q).natAbs<Top)
  (hi:h[i]?=some (some ⟨o,72,[(0,72,.agg ⟨wiL (decide (x<0)) false x.natAbs++(wiL (decide (p<0)) false p.natAbs++(wiL (decide (y<0)) false y.natAbs++(wiL (decide (q<0)) false q.natAbs)))⟩)]⟩)) :
  qae prog 211 [.slice (some ⟨i,0,some 0⟩) 4 4] h (wz (x*p+y*q)) [] [i]:=by
 have h0:(0+x*p).natAbs<Top:=by rwa[Int.zero_add]
 have hz:(0:Int).natAbs<Top:=zt Q8I
 have e0:x*p+y*q=0+x*p+y*q:=by rw[Int.zero_add]
 rw[e0] at h3 ⊢
 refine qak (G:=tys) [⟨i,_,⟨false,72,[(0,72,.agg ⟨wiL (decide (x<0)) false x.natAbs++(wiL (decide (p<0)) false p.natAbs++(wiL (decide (y<0)) false y.natAbs++(wiL (decide (q<0)) false q.natAbs)))⟩)]⟩,⟨false,0,[]⟩⟩] [] [.slice (some ⟨0,0,some 0⟩) 4 4] tysOK mixed func211 Q8F (call211) ⟨hi,xb⟩ ⟨qin (qam (by simp[qh2]) (qwf _ _ _ _)),xb⟩ Q8K xb ⟨.slice rfl,xb⟩ ?_
 repeat' (first|(refine Ba ?_;first|refine Q4Z ?_)|refine qah Q8F ?_)
 refine Ba ?_
 refine Bp 3 ?_
 repeat' (first|(refine Ba ?_;first|refine Q4Z ?_|refine Q62 ?_|refine Q5r ?_|refine Q5m ?_|refine Q5d ?_|refine Bb (cMulz x p _ hx hp h1) ?_|refine Bb (cMulz y q _ hy hq h2) ?_|refine Bb (jgw 0 (x*p) _ hz h1 h0) ?_|refine Bb (jgw (0+x*p) (y*q) _ h0 h2 h3) ?_|refine Q6K ?_|exact Be|fail)|refine qah Q8F ?_)
theorem jhw(x y p q:Int)(i j:Nat)(w1 w2:Bool)(h:Hp)(hx:x.natAbs<Bs^16)(hp:p.natAbs<Bs^16)(hy:y.natAbs<Bs^16)(hq:q.natAbs<Bs^16)(h1:(x*p).natAbs<Top)(h2:(y*q).natAbs<Top)(h3:(x*p+y*q).natAbs<Top)
  (hi:h[i]?=some (some ⟨w1,18,[(0,18,wz p)]⟩)) (hj:h[j]?=some (some ⟨w2,18,[(0,18,wz q)]⟩)) (hne:i≠j) :
  qae prog 225 [wz x,wz y,xd i,xd j] h (wz (x*p+y*q)) [] [i,j]:=by
 refine qak (G:=tys) [⟨i,_,⟨false,18,[(0,18,wz p)]⟩,⟨false,0,[]⟩⟩,⟨j,_,⟨false,18,[(0,18,wz q)]⟩,⟨false,0,[]⟩⟩] [] [wz x,wz y,xd 0,xd 1] tysOK mixed func225 Q8F (call225) ⟨hi,hj,xb⟩ ⟨wz_re _,wz_re _,xb⟩ Q9T xb ⟨.plain (qad _),.plain (qad _),.ptr rfl,.ptr rfl,xb⟩ ?_
 repeat' (first|(refine Ba ?_;first|refine Q4Z ?_|refine Bb (ji8 x p y q 5 _ _ hx hp hy hq h1 h2 h3 Q8F) ?_|refine Q6K ?_|exact Be|fail)|refine qah Q8F ?_)
def pw(k:Nat):Nat:=2^k
theorem joa(h:m<=n):pw m<=pw n:=xW Q8I h
theorem q5z(m n:Nat):pw (m+n)=pw m*pw n:=x8 ..
def Bd(z:Int)(k:Nat):Prop:=z.natAbs<=pw k
theorem Bd.le(h:Bd z m)(hn:m<=n):Bd z n:=xC h (joa hn)
theorem Bd.mul{b:Int}(ha:Bd a m)(hb:Bd b n):Bd (a*b) (m+n):=by
 unfold Bd at *;rw[yO,q5z];exact ym ha hb
theorem Bd.add{b:Int}(k:Nat)(ha:Bd a m)(hb:Bd b n)(hm:m<=k:=by decide)(hn:n<=k:=by decide):Bd (a+b) (k+1):=by
 have h1:=ha.le hm;have h2:=hb.le hn;unfold Bd at *;rw[q5z,show pw 1=2 from rfl];omega
theorem Bd.neg(ha:Bd a m):Bd (-a) m:=by unfold Bd at *;rwa[yA]
theorem Bd.sub{b:Int}(k:Nat)(ha:Bd a m)(hb:Bd b n)(hm:m<=k:=by decide)(hn:n<=k:=by decide):Bd (a-b) (k+1):=by
 rw[Int.sub_eq_add_neg];exact Bd.add k ha hb.neg hm hn
theorem Bd.top(h:Bd z k)(hk:k<=1022:=by decide):z.natAbs<Top:=xM h (yR Q8I (show k<1023 by omega))
theorem Bd.b16(h:Bd z k)(hk:k<=1022:=by decide):z.natAbs<Bs^16:=xA (h.top hk) qbw
theorem Bd.of(h:z.natAbs<=n)(hk:n<=pw k:=by decide):Bd z k:=xC h hk
structure Inf.bd(i:Inf)(a u z:Nat):Prop where
 A:Bd i.A a
 B:Bd i.B a
 D:Bd i.D a
 U:Bd i.U u
 V:Bd i.V u
 Z:Bd i.Z z
 Den:Bd i.Den z
theorem Inf.bd.le{i:Inf}{a u z a' u' z':Nat}(h:i.bd a u z)(h1:a<=a':=by decide)(h2:u<=u':=by decide)(h3:z<=z':=by decide):i.bd a' u' z':=⟨h.A.le h1,h.B.le h1,h.D.le h1,h.U.le h2,h.V.le h2,h.Z.le h3,h.Den.le h3⟩
abbrev job(i:Inf):List Value:=wiL (decide (i.A<0)) false i.A.natAbs++(wiL (decide (i.B<0)) false i.B.natAbs++(wiL (decide (i.D<0)) false i.D.natAbs++(wiL (decide (i.U<0)) false i.U.natAbs++(wiL (decide (i.V<0)) false i.V.natAbs++(wiL (decide (i.Z<0)) false i.Z.natAbs++wiL (decide (i.Den<0)) false i.Den.natAbs)))))
abbrev jf2(i:Inf):Value:=.agg ⟨job i⟩
theorem qbc(i:Inf):qap (jf2 i)=true:=by
 have a:=qad i.A;have b:=qad i.B;have c:=qad i.D;have d:=qad i.U;have e:=qad i.V;have f:=qad i.Z;have g:=qad i.Den;simp only[qap,wz] at a b c d e f g ⊢;simp only[job,List.all_append,a,b,c,d,e,f,g,za]
theorem qct(i:Inf):flatB (jf2 i) 126=true:=by
 have a:=qab (decide (i.A<0)) false i.A.natAbs;have b:=qab (decide (i.B<0)) false i.B.natAbs;have c:=qab (decide (i.D<0)) false i.D.natAbs;have d:=qab (decide (i.U<0)) false i.U.natAbs;have e:=qab (decide (i.V<0)) false i.V.natAbs;have f:=qab (decide (i.Z<0)) false i.Z.natAbs;have g:=qab (decide (i.Den<0)) false i.Den.natAbs;simp only[flatB,xp] at a b c d e f g ⊢;simp only[job,List.all_append,yr,qh2,a,b,c,d,e,f,g,za];exact⟨rfl,xb⟩
theorem jlq(z w:Int)(h:Hp)(e:w=z)(h0 : -9223372036854775808<=z)(h1:z<9223372036854775808):qae prog 98 [xc w] h (wz z) [] []:=by subst e;exact cOfz w h h0 h1
theorem jp1{w:Int}(hw:0<=w/\w<=34):Bd w 6/\Bd (34-w) 6:=⟨Bd.of (n:=64) Q8E,Bd.of (n:=64) Q8E⟩
theorem jck{i j:Inf}{w:Int}(hw:0<=w/\w<=34)(hi:i.bd 51 78 105)(hj:j.bd 51 78 105):(jir i j w).bd 163 190 217:=by
 obtain⟨w1,w2⟩:=jp1 hw;have p:=w1.mul hj.Den;have q:=w2.mul hi.Den;have m:Bd (34:Int) 6:=Bd.of (n:=64) Q8I;exact⟨Bd.add 162 (hi.A.mul p) (hj.A.mul q),Bd.add 162 (hi.B.mul p) (hj.B.mul q),Bd.add 162 (hi.D.mul p) (hj.D.mul q),Bd.add 189 (hi.U.mul p) (hj.U.mul q),Bd.add 189 (hi.V.mul p) (hj.V.mul q),Bd.add 216 (hi.Z.mul p) (hj.Z.mul q),(m.mul (hi.Den.mul hj.Den)).le Q8I⟩
theorem joc(i j:Inf)(w:Int)(hw:0<=w/\w<=34)(hi:i.bd 51 78 105)(hj:j.bd 51 78 105)(W:World):xa 212 #[jf2 i,jf2 j,xc w] W (.tuple #[jf2 (jir i j w),xc 0]):=by
 obtain⟨w1,w2⟩:=jp1 hw;have p:=w1.mul hj.Den;have q:=w2.mul hi.Den;have m:Bd (34:Int) 6:=Bd.of (n:=64) Q8I;have dd:=hi.Den.mul hj.Den;have w34:IntKind.i64.wrap (34-w)=34-w:=jep _ Q8E Q8E;refine qac (G:=tys) W tysOK mixed func212 Q8F (by simp[qbc];rfl) Q9r ?_
 repeat' (first|(refine Ba ?_;first|refine Q4Z ?_|refine Bc (qct _) ?_|refine Q5e ?_|refine Bb (cOfz w _ Q8E Q8E) ?_|refine Bb (cMulz w j.Den _ w1.b16 hj.Den.b16 p.top) ?_|refine Bb (jlq (34-w) _ _ w34 Q8E Q8E) ?_|refine Bb (cMulz (34-w) i.Den _ w2.b16 hi.Den.b16 q.top) ?_|refine Bb (cOfz 34 _ Q8I Q8I) ?_|refine Bb (cMulz i.Den j.Den _ hi.Den.b16 hj.Den.b16 dd.top) ?_|refine Bb (cMulz 34 (i.Den*j.Den) _ m.b16 dd.b16 (m.mul dd).top) ?_|refine Bb (jhw i.A j.A (w*j.Den) ((34-w)*i.Den) 11 20 _ _ _ hi.A.b16 p.b16 hj.A.b16 q.b16 (hi.A.mul p).top (hj.A.mul q).top (Bd.add 216 (hi.A.mul p) (hj.A.mul q)).top Q8F Q8F Q8I) ?_|refine Bb (jhw i.B j.B (w*j.Den) ((34-w)*i.Den) 11 20 _ _ _ hi.B.b16 p.b16 hj.B.b16 q.b16 (hi.B.mul p).top (hj.B.mul q).top (Bd.add 216 (hi.B.mul p) (hj.B.mul q)).top Q8F Q8F Q8I) ?_|refine Bb (jhw i.D j.D (w*j.Den) ((34-w)*i.Den) 11 20 _ _ _ hi.D.b16 p.b16 hj.D.b16 q.b16 (hi.D.mul p).top (hj.D.mul q).top (Bd.add 216 (hi.D.mul p) (hj.D.mul q)).top Q8F Q8F Q8I) ?_|refine Bb (jhw i.U j.U (w*j.Den) ((34-w)*i.Den) 11 20 _ _ _ hi.U.b16 p.b16 hj.U.b16 q.b16 (hi.U.mul p).top (hj.U.mul q).top (Bd.add 216 (hi.U.mul p) (hj.U.mul q)).top Q8F Q8F Q8I) ?_|refine Bb (jhw i.V j.V (w*j.Den) ((34-w)*i.Den) 11 20 _ _ _ hi.V.b16 p.b16 hj.V.b16 q.b16 (hi.V.mul p).top (hj.V.mul q).top (Bd.add 216 (hi.V.mul p) (hj.V.mul q)).top Q8F Q8F Q8I) ?_|refine Bb (jhw i.Z j.Z (w*j.Den) ((34-w)*i.Den) 11 20 _ _ _ hi.Z.b16 p.b16 hj.Z.b16 q.b16 (hi.Z.mul p).top (hj.Z.mul q).top (Bd.add 216 (hi.Z.mul p) (hj.Z.mul q)).top Q8F Q8F Q8I) ?_)|refine qah Q8F ?_)
 all_goals rfl
theorem jqp(i j:Inf)(w:Int)(h:Hp)(hw:0<=w/\w<=34)(hi:i.bd 51 78 105)(hj:j.bd 51 78 105):qae prog 212 [jf2 i,jf2 j,xc w] h (.tuple #[jf2 (jir i j w),xc 0]) [] []:=
 qai (by simp[qbc];rfl) Q9r (call212 _) (joc i j w hw hi hj)
theorem jod(a b d:Int)(hm:jf7 a b d)(W:World):xa 209 #[.agg #[xc a,xc b,xc d]] W (.agg #[xc d,xc (-b),xc a]):=by
 have hm2:=hm;unfold jf7 at hm2;have hb:IntKind.i64.wrap (0-b) = -b:=by rw[jep _ Q8E Q8E];omega
 refine qac (G:=tys) W tysOK mixed func209 Q8F Q8F Q8F ?_;repeat' (first|(refine Ba ?_;first|refine Q4Z ?_|refine Bb (jnw _ _ _ _) ?_|refine Bf (ndF hm) ?_)|refine qah Q8F ?_)
 all_goals rw[hb]
theorem jqq(a b d:Int)(h:Hp)(hm:jf7 a b d):qae prog 209 [.agg #[xc a,xc b,xc d]] h (.agg #[xc d,xc (-b),xc a]) [] []:=
 qai rfl rfl (call209 _) (jod a b d hm)
theorem quu(h:e.may):e.inf.bd 51 78 105:=by
 have hm:=h;unfold El.may mayP qaz at hm;have a:Bd e.a 46:=Bd.of (n:=70368744177664) Q8E;have b:Bd e.b 46:=Bd.of (n:=70368744177664) Q8E;have d:Bd e.d 46:=Bd.of (n:=70368744177664) Q8E;have x:Bd e.x 22:=Bd.of (n:=4194304) Q8E;have y:Bd e.y 22:=Bd.of (n:=4194304) Q8E;refine⟨d.le Q8I,b.neg.le Q8I,a.le Q8I,(Bd.add 77 (d.mul x) (b.neg.mul y)),(Bd.add 77 (b.neg.mul x) (a.mul y)),?_,?_⟩
 .show Bd (jfo e.d (-e.b) e.a e.x e.y) 105;unfold jfo;exact Bd.add 104 (Bd.add 103 (d.mul (x.mul x)) (a.mul (y.mul y))) (Bd.add 103 (b.neg.mul (x.mul y)) (b.neg.mul (x.mul y)))
 .exact Bd.sub 104 (a.mul d) (b.mul b)
theorem jqr(e:El)(he:e.may)(W:World):xa 191 #[elE e] W (.tuple #[jf2 e.inf,xc 0]):=by
 have hm:=he;unfold El.may mayP qaz at hm;have bd:=quu he;have a:Bd e.a 46:=Bd.of (n:=70368744177664) Q8E;have b:Bd (-e.b) 46:=Bd.of (n:=70368744177664) Q8E;have d:Bd e.d 46:=Bd.of (n:=70368744177664) Q8E;have x:Bd e.x 22:=Bd.of (n:=4194304) Q8E;have y:Bd e.y 22:=Bd.of (n:=4194304) Q8E;refine qac (G:=tys) W tysOK mixed func191 Q8F Q8F Q9r ?_
 repeat' (first|(refine Ba ?_;first|refine Q4Z ?_|refine Q5L ?_|refine Bf (ndF he) ?_|refine Bb (jqq e.a e.b e.d _ (by unfold jf7;omega)) ?_|refine Bb (cOfz (e.x) _ Q8E Q8E) ?_|refine Bb (cOfz (e.y) _ Q8E Q8E) ?_|refine Bb (cOfz (e.d) _ Q8E Q8E) ?_|refine Bb (cOfz (-e.b) _ Q8E Q8E) ?_|refine Bb (cOfz (e.a) _ Q8E Q8E) ?_|refine Bb (jln e.d (-e.b) e.a e.x e.y _ Q8E Q8E Q8E Q8E Q8E) ?_|refine Bb (jpx e.a e.b e.d _ Q8E Q8E Q8E) ?_|refine Bb (ji8 e.d e.x (-e.b) e.y 38 _ _ d.b16 x.b16 b.b16 y.b16 (d.mul x).top (b.mul y).top bd.U.top Q8F) ?_|refine Bb (ji8 (-e.b) e.x e.a e.y 43 _ _ b.b16 x.b16 a.b16 y.b16 (b.mul x).top (a.mul y).top bd.V.top Q8F) ?_)|refine qah Q8F ?_)
 all_goals rfl
theorem joe(e:El)(h:Hp)(he:e.may):qae prog 191 [elE e] h (.tuple #[jf2 e.inf,xc 0]) [] []:=
 qai rfl Q9r (call191 _) (jqr e he)
theorem jcl(x y:Operand)(a b c d:Int):BinIs prog .neq 23 x y (.agg #[xc a,xc b]) (.agg #[xc c,xc d]) (.bool !(a==c&&b==d)):=
 Q8s
theorem quv(x y:Operand)(a b c d:Int):BinIs prog .eql 23 x y (.agg #[xc a,xc b]) (.agg #[xc c,xc d]) (.bool (a==c&&b==d)):=
 Q8s
abbrev stV(s:Strip):Value:=.agg #[xc s.ox,xc s.oy,xc s.hx,xc s.hy,xc s.lo,xc s.hi]
theorem qz5(x y m:Int)(hm:0<=m/\m<=1152921504606846976)(w:World):xa 241 #[.agg #[xc x,xc y],xc m] w (.bool (decide (qaz m x y))):=by
 have hw:=jep (0-m) Q8E Q8E;refine qac (G:=tys) w tysOK mixed func241 Q8F Q8F Q8F ?_;repeat' (refine Ba ?_;first|refine Q4Z ?_|with_reducible refine Bi (λhb=>?_) (λhb=>?_)|fail)
 all_goals
  refine jfn ?_
  try rw[hw] at *
  simp only[xh,xj,xz,false_iff,true_iff,iff_true,iff_false,reduceCtorEq,ya,xy,yb,xR] at *
  try try rw[hw] at *
  simp only[qaz] at *
  omega
theorem q3o(x y m:Int)(h:Hp)(hm:0<=m/\m<=1152921504606846976):qae prog 241 [.agg #[xc x,xc y],xc m] h (.bool (decide (qaz m x y))) [] []:=
 qai rfl rfl (call241 _) (qz5 x y m hm)
theorem qwg(s:Strip)(w:World):xa 219 #[stV s] w (.bool (decide s.may)):=by
 refine qac (G:=tys) w tysOK mixed func219 Q8F Q8F Q8F ?_;repeat' (refine Ba ?_;first|refine Q4Z ?_|refine Bb (qgn _ _ _) ?_|refine Bb (q3o _ _ _ _ Q8I) ?_|refine Br _ (jcl _ _ _ _ _ _) ?_|with_reducible refine Bi (λhb=>?_) (λhb=>?_)|fail)
 all_goals
  refine jfn ?_
  unfold Strip.may
  simp only[xh,xj,xz,false_iff,true_iff,iff_true,iff_false,reduceCtorEq,ya,xy,yb,xR,y8,Bool.and_eq_false_imp,yk,beq_eq_false_iff_ne,zw,xp,ne_eq] at *
  simp only[qaz] at *
  omega
theorem qlq(s:Strip)(h:Hp):qae prog 219 [stV s] h (.bool (decide s.may)) [] []:=
 qai rfl rfl (call219 _) (qwg s)
theorem q3p{s:Strip}(h:s.may):s.inf.bd 51 78 105:=by
 unfold Strip.may qaz at h;have hx:Bd (2*s.hx) 25:=Bd.of (n:=33554432) Q8E;have hy:Bd (2*s.hy) 25:=Bd.of (n:=33554432) Q8E;have ox:Bd s.ox 22:=Bd.of (n:=4194304) Q8E;have oy:Bd s.oy 22:=Bd.of (n:=4194304) Q8E;have lh:Bd (s.lo+s.hi) 51:=Bd.of (n:=2251799813685248) Q8E;have ap:Bd (s.hi-s.lo) 51:=Bd.of (n:=2251799813685248) Q8E;have m:Bd (s.lo+s.hi+2*s.hx*s.ox+2*s.hy*s.oy) 52:=by
  have h1:=hx.mul ox;have h2:=hy.mul oy;have e1:pw (25+22)=140737488355328:=rfl;unfold Bd at h1 h2;rw[e1] at h1 h2;refine Bd.of (n:=4503599627370496) ?_;omega
 exact⟨(hx.mul hx).le Q8I,(hx.mul hy).le Q8I,(hy.mul hy).le Q8I,(m.mul hx).le Q8I,(m.mul hy).le Q8I,(m.mul m).le Q8I,(ap.mul ap).le Q8I⟩
theorem qz6(s:Strip)(hs:s.may)(W:World):xa 242 #[stV s] W (.tuple #[jf2 s.inf,xc 0]):=by
 have h:=hs;unfold Strip.may qaz at h;have hx:Bd (2*s.hx) 25:=Bd.of (n:=33554432) Q8E;have hy:Bd (2*s.hy) 25:=Bd.of (n:=33554432) Q8E;have ox:Bd s.ox 22:=Bd.of (n:=4194304) Q8E;have oy:Bd s.oy 22:=Bd.of (n:=4194304) Q8E;have ap:Bd (s.hi-s.lo) 51:=Bd.of (n:=2251799813685248) Q8E;have h1:=hx.mul ox;have h2:=hy.mul oy;have e1:pw (25+22)=140737488355328:=rfl;unfold Bd at h1 h2;rw[e1] at h1 h2;have mm:(s.lo+s.hi+2*s.hx*s.ox+2*s.hy*s.oy).natAbs<=4503599627370496:=by omega
 have m:Bd (s.lo+s.hi+2*s.hx*s.ox+2*s.hy*s.oy) 52:=Bd.of mm;have w1:IntKind.i64.wrap (2*s.hx)=2*s.hx:=jep _ Q8E Q8E;have w2:IntKind.i64.wrap (2*s.hy)=2*s.hy:=jep _ Q8E Q8E;have w3:IntKind.i64.wrap (IntKind.i64.wrap (IntKind.i64.wrap (s.lo+s.hi)+IntKind.i64.wrap (IntKind.i64.wrap (2*s.hx)*s.ox))+IntKind.i64.wrap (IntKind.i64.wrap (2*s.hy)*s.oy))=s.lo+s.hi+2*s.hx*s.ox+2*s.hy*s.oy:=by
  rw[w1,w2,jep (s.lo+s.hi) Q8E Q8E,jep (2*s.hx*s.ox) Q8E Q8E,jep (2*s.hy*s.oy) Q8E Q8E,jep (s.lo+s.hi+2*s.hx*s.ox) Q8E Q8E,jep _ Q8E Q8E]
 have w4:IntKind.i64.wrap (s.hi-s.lo)=s.hi-s.lo:=jep _ Q8E Q8E;refine qac (G:=tys) W tysOK mixed func242 Q8F Q8F Q9r ?_
 repeat' (first|(refine Ba ?_;first|refine Q4Z ?_|refine Bb (qlq s _) ?_|refine Bf (ndF hs) ?_|refine Bb (jlq (2*s.hx) _ _ w1 Q8E Q8E) ?_|refine Bb (jlq (2*s.hy) _ _ w2 Q8E Q8E) ?_|refine Bb (jlq (s.lo+s.hi+2*s.hx*s.ox+2*s.hy*s.oy) _ _ w3 Q8E Q8E) ?_|refine Bb (jlq (s.hi-s.lo) _ _ w4 Q8E Q8E) ?_|refine Bb (cMulz (2*s.hx) (2*s.hx) _ hx.b16 hx.b16 (hx.mul hx).top) ?_|refine Bb (cMulz (2*s.hx) (2*s.hy) _ hx.b16 hy.b16 (hx.mul hy).top) ?_|refine Bb (cMulz (2*s.hy) (2*s.hy) _ hy.b16 hy.b16 (hy.mul hy).top) ?_|refine Bb (cMulz (s.lo+s.hi+2*s.hx*s.ox+2*s.hy*s.oy) (2*s.hx) _ m.b16 hx.b16 (m.mul hx).top) ?_|refine Bb (cMulz (s.lo+s.hi+2*s.hx*s.ox+2*s.hy*s.oy) (2*s.hy) _ m.b16 hy.b16 (m.mul hy).top) ?_|refine Bb (cMulz (s.lo+s.hi+2*s.hx*s.ox+2*s.hy*s.oy) (s.lo+s.hi+2*s.hx*s.ox+2*s.hy*s.oy) _ m.b16 m.b16 (m.mul m).top) ?_|refine Bb (cMulz (s.hi-s.lo) (s.hi-s.lo) _ ap.b16 ap.b16 (ap.mul ap).top) ?_)|refine qah Q8F ?_)
 all_goals rfl
theorem q3q(s:Strip)(h:Hp)(hs:s.may):qae prog 242 [stV s] h (.tuple #[jf2 s.inf,xc 0]) [] []:=
 qai rfl Q9r (call242 _) (qz6 s hs)
theorem q8m(i:Inf)(D:Int)(hi:i.bd 163 190 217)(hD:Bd D 327)(W:World):xa 226 #[jf2 i,wz D] W (wz ((i.Den-i.Z)*D+((i.D*(i.U*i.U)+i.A*(i.V*i.V)) + -(2*(i.B*(i.U*i.V)))))):=by
 have a:=hi.A;have b:=hi.B;have d:=hi.D;have u:=hi.U;have v:=hi.V;have two:Bd (2:Int) 1:=Bd.of (n:=2) Q8I;have uu:=u.mul u;have vv:=v.mul v;have uv:=u.mul v;have buv:=b.mul uv;have b2:=two.mul buv;have duu:=d.mul uu;have avv:=a.mul vv;have sq:=Bd.add 543 duu avv;have dz:=Bd.sub 217 hi.Den hi.Z;have dzd:=dz.mul hD;have sb:=Bd.add 544 sq b2.neg;have lv:=Bd.add 545 dzd sb;refine qac (G:=tys) W tysOK mixed func226 Q8F (by simp[qbc,qad]) (qaj _) ?_
 repeat' (first|(refine Ba ?_;first|refine Q4Z ?_|refine Bc (qct _) ?_|refine Bb (cMulz (i.U) (i.U) _ u.b16 u.b16 (u.mul u).top) ?_|refine Bb (cMulz (i.V) (i.V) _ v.b16 v.b16 (v.mul v).top) ?_|refine Bb (cMulz (i.U) (i.V) _ u.b16 v.b16 (u.mul v).top) ?_|refine Bb (cMulz (i.B) (i.U*i.V) _ b.b16 uv.b16 (b.mul uv).top) ?_|refine Bb (cMulz (2) (i.B*(i.U*i.V)) _ two.b16 buv.b16 (two.mul buv).top) ?_|refine Bb (cMulz (i.Den-i.Z) (D) _ dz.b16 hD.b16 (dz.mul hD).top) ?_|refine Bb (cOfz 2 _ Q8I Q8I) ?_|refine Bb (ji8 i.D (i.U*i.U) i.A (i.V*i.V) 11 _ _ d.b16 uu.b16 a.b16 vv.b16 duu.top avv.top sq.top Q8F) ?_|refine Bb (jhs i.Den i.Z _ hi.Den.top hi.Z.top dz.top) ?_|refine Bb (jlm (2*(i.B*(i.U*i.V))) _ b2.top) ?_|refine Bb (jgw (i.D*(i.U*i.U)+i.A*(i.V*i.V)) (-(2*(i.B*(i.U*i.V)))) _ sq.top b2.neg.top sb.top) ?_|refine Bb (jgw ((i.Den-i.Z)*D) (i.D*(i.U*i.U)+i.A*(i.V*i.V) + -(2*(i.B*(i.U*i.V)))) _ dzd.top sb.top lv.top) ?_)|refine qah Q8F ?_)
 all_goals rfl
theorem qj4(i:Inf)(D:Int)(h:Hp)(hi:i.bd 163 190 217)(hD:Bd D 327):qae prog 226 [jf2 i,wz D] h (wz ((i.Den-i.Z)*D+((i.D*(i.U*i.U)+i.A*(i.V*i.V)) + -(2*(i.B*(i.U*i.V)))))) [] []:=
 qai (by simp[qbc,qad]) (qaj _) (call226 _) (q8m i D hi hD)
theorem qwh(z0 z1 z2 z3 z4 z5 z6:Int):qap (.agg ⟨wiL (decide (z0<0)) false (z0).natAbs++(wiL (decide (z1<0)) false (z1).natAbs++(wiL (decide (z2<0)) false (z2).natAbs++(wiL (decide (z3<0)) false (z3).natAbs++(wiL (decide (z4<0)) false (z4).natAbs++(wiL (decide (z5<0)) false (z5).natAbs++(wiL (decide (z6<0)) false (z6).natAbs))))))⟩)=true:=by
 have a0:=qad z0;have a1:=qad z1;have a2:=qad z2;have a3:=qad z3;have a4:=qad z4;have a5:=qad z5;have a6:=qad z6;simp only[qap,wz] at a0 a1 a2 a3 a4 a5 a6 ⊢;simp only[List.all_append,a0,a1,a2,a3,a4,a5,a6,za]
theorem jcm(z0 z1 z2 z3 z4 z5 z6:Int)(i:Nat)(o:Bool)(h:Hp)(hi:h[i]?=some (some ⟨o,126,[(0,126,.agg ⟨wiL (decide (z0<0)) false (z0).natAbs++(wiL (decide (z1<0)) false (z1).natAbs++(wiL (decide (z2<0)) false (z2).natAbs++(wiL (decide (z3<0)) false (z3).natAbs++(wiL (decide (z4<0)) false (z4).natAbs++(wiL (decide (z5<0)) false (z5).natAbs++(wiL (decide (z6<0)) false (z6).natAbs))))))⟩)]⟩)):
  qae prog 228 [.slice (some ⟨i,0,some 0⟩) 7 7] h (.bool false) [] [i]:=by
 refine qak (G:=tys) [⟨i,_,⟨false,126,[(0,126,.agg ⟨wiL (decide (z0<0)) false (z0).natAbs++(wiL (decide (z1<0)) false (z1).natAbs++(wiL (decide (z2<0)) false (z2).natAbs++(wiL (decide (z3<0)) false (z3).natAbs++(wiL (decide (z4<0)) false (z4).natAbs++(wiL (decide (z5<0)) false (z5).natAbs++(wiL (decide (z6<0)) false (z6).natAbs))))))⟩)]⟩,⟨false,0,[]⟩⟩] [] [.slice (some ⟨0,0,some 0⟩) 7 7] tysOK mixed func228 Q8F (call228) ⟨hi,xb⟩ ⟨qin (qam (by simp[qh2]) (qwh _ _ _ _ _ _ _)),xb⟩ Q8K xb ⟨.slice rfl,xb⟩ ?_
 repeat' (first|(refine Ba ?_;first|refine Q4Z ?_)|refine qah Q8F ?_)
 refine Ba ?_
 refine Bp 8 ?_
 repeat' (first|(refine Ba ?_;first|refine Q4Z ?_|refine Q62 ?_|refine Q5r ?_|refine Q6Q ?_|refine Q5m ?_|refine Q5d ?_|refine Q6w ?_|refine Q5x ?_|refine Bc xb ?_|exact Be|fail)|refine qah Q8F ?_)
theorem qwi(z0 z1 z2 z3 z4 z5 z6 z7:Int):qap (.agg ⟨wiL (decide (z0<0)) false (z0).natAbs++(wiL (decide (z1<0)) false (z1).natAbs++(wiL (decide (z2<0)) false (z2).natAbs++(wiL (decide (z3<0)) false (z3).natAbs++(wiL (decide (z4<0)) false (z4).natAbs++(wiL (decide (z5<0)) false (z5).natAbs++(wiL (decide (z6<0)) false (z6).natAbs++(wiL (decide (z7<0)) false (z7).natAbs)))))))⟩)=true:=by
 have a0:=qad z0;have a1:=qad z1;have a2:=qad z2;have a3:=qad z3;have a4:=qad z4;have a5:=qad z5;have a6:=qad z6;have a7:=qad z7;simp only[qap,wz] at a0 a1 a2 a3 a4 a5 a6 a7 ⊢;simp only[List.all_append,a0,a1,a2,a3,a4,a5,a6,a7,za]
theorem qj5(z0 z1 z2 z3 z4 z5 z6 z7:Int)(i:Nat)(o:Bool)(h:Hp)(hi:h[i]?=some (some ⟨o,144,[(0,144,.agg ⟨wiL (decide (z0<0)) false (z0).natAbs++(wiL (decide (z1<0)) false (z1).natAbs++(wiL (decide (z2<0)) false (z2).natAbs++(wiL (decide (z3<0)) false (z3).natAbs++(wiL (decide (z4<0)) false (z4).natAbs++(wiL (decide (z5<0)) false (z5).natAbs++(wiL (decide (z6<0)) false (z6).natAbs++(wiL (decide (z7<0)) false (z7).natAbs)))))))⟩)]⟩)):
  qae prog 228 [.slice (some ⟨i,0,some 0⟩) 8 8] h (.bool false) [] [i]:=by
 refine qak (G:=tys) [⟨i,_,⟨false,144,[(0,144,.agg ⟨wiL (decide (z0<0)) false (z0).natAbs++(wiL (decide (z1<0)) false (z1).natAbs++(wiL (decide (z2<0)) false (z2).natAbs++(wiL (decide (z3<0)) false (z3).natAbs++(wiL (decide (z4<0)) false (z4).natAbs++(wiL (decide (z5<0)) false (z5).natAbs++(wiL (decide (z6<0)) false (z6).natAbs++(wiL (decide (z7<0)) false (z7).natAbs)))))))⟩)]⟩,⟨false,0,[]⟩⟩] [] [.slice (some ⟨0,0,some 0⟩) 8 8] tysOK mixed func228 Q8F (call228) ⟨hi,xb⟩ ⟨qin (qam (by simp[qh2]) (qwi _ _ _ _ _ _ _ _)),xb⟩ Q8K xb ⟨.slice rfl,xb⟩ ?_
 repeat' (first|(refine Ba ?_;first|refine Q4Z ?_)|refine qah Q8F ?_)
 refine Ba ?_
 refine Bp 9 ?_
 repeat' (first|(refine Ba ?_;first|refine Q4Z ?_|refine Q62 ?_|refine Q5r ?_|refine Q6Q ?_|refine Bj 7 0 Q8I Q8I ?_|refine Q5m ?_|refine Q5d ?_|refine Q6w ?_|refine Bb (qed z7 _) ?_|refine Q5x ?_|refine Bc xb ?_|exact Be|fail)|refine qah Q8F ?_)
theorem jof(i:Inf)(W:World):xa 227 #[jf2 i] W (.bool false):=by
 refine qac (G:=tys) W tysOK mixed func227 Q8F (by simp[qbc]) rfl ?_;repeat' (first|(refine Ba ?_;first|refine Q4Z ?_|refine Bc (qct _) ?_|refine Bb (jcm i.A i.B i.D i.U i.V i.Z i.Den 1 _ _ Q8F) ?_)|refine qah Q8F ?_)
 all_goals rfl
theorem jqs(i:Inf)(h:Hp):qae prog 227 [jf2 i] h (.bool false) [] []:=
 qai (by simp[qbc]) rfl (call227 _) (jof i)
open Go Go.RowKit Sx
theorem jms(a b bad z e:Int)(k:Nat)(h:Hp)(ha:a.natAbs<Top)(ha2:(a+a).natAbs<Top)(ha3:(a+a+b).natAbs<Top)(hb0:0<b)(hbb:b.natAbs<Top)(hb2:(b+b).natAbs<Top)(hz:n64 (jer a b)=z)(he:max bad (e64 (jer a b))=e)(hk:h[k]?=some (some (gc bad))):
  qae prog 229 [fnV 230,wz a,wz b,xd k] h (xc z) [(k,gc e)] []:=by
 subst hz he
 refine qak (G:=tys) [⟨k,_,gc bad,gc (max bad (e64 (jer a b)))⟩] [] [fnV 230,wz a,wz b,xd 0] tysOK mixed func229 Q8F (call229) ⟨hk,xb⟩ ⟨Q7Q,xb⟩ Q8K xb Q85 ?_
 repeat' (first|(refine Ba ?_;first|refine Q4Z ?_|refine Bb (jci a b _ ha ha2 ha3 hb0 hbb hb2) ?_|refine Q67 ?_|refine Q5S ?_|refine Q5H ?_|exact Be|fail)|refine qah Q8F ?_)
theorem jmt(a b bad z e:Int)(k:Nat)(h:Hp)(ha:a.natAbs<Top)(hb0:0<b)(hbb:b.natAbs<Top)(hz:n64 (jen a b)=z)(he:max bad (e64 (jen a b))=e)(hk:h[k]?=some (some (gc bad))):
  qae prog 229 [fnV 231,wz a,wz b,xd k] h (xc z) [(k,gc e)] []:=by
 subst hz he
 refine qak (G:=tys) [⟨k,_,gc bad,gc (max bad (e64 (jen a b)))⟩] [] [fnV 231,wz a,wz b,xd 0] tysOK mixed func229 Q8F (call229) ⟨hk,xb⟩ ⟨Q7Q,xb⟩ Q8K xb Q85 ?_
 repeat' (first|(refine Ba ?_;first|refine Q4Z ?_|refine Bb (jch a b _ ha hb0 hbb) ?_|refine Q67 ?_|refine Q5S ?_|refine Q5H ?_|exact Be|fail)|refine qah Q8F ?_)
theorem jp2(a b bad z e:Int)(k:Nat)(h:Hp)(ha:a.natAbs<Top)(hb0:0<b)(hbb:b.natAbs<Top)(hz:n64 (a / b)=z)(he:max bad (e64 (a / b))=e)(hk:h[k]?=some (some (gc bad))):
  qae prog 229 [fnV 232,wz a,wz b,xd k] h (xc z) [(k,gc e)] []:=by
 subst hz he
 refine qak (G:=tys) [⟨k,_,gc bad,gc (max bad (e64 (a / b)))⟩] [] [fnV 232,wz a,wz b,xd 0] tysOK mixed func229 Q8F (call229) ⟨hk,xb⟩ ⟨Q7Q,xb⟩ Q8K xb Q85 ?_
 repeat' (first|(refine Ba ?_;first|refine Q4Z ?_|refine Bb (qzy a b _ ha hb0 hbb) ?_|refine Q67 ?_|refine Q5S ?_|refine Q5H ?_|exact Be|fail)|refine qah Q8F ?_)
theorem q8n(e:El)(r a d:Int)(h:Hp)(ha:a=e.a)(hd:d=e.d)(he:e.may)(hr:0<=r/\r<=4194304):qae prog 188 [elV e.x e.y a e.b d,xc r] h (.tuple #[elE (qfp e r).1,xc (qfp e r).2]) [] []:=by
 subst ha hd;exact qz4 e r h he hr
theorem qjs(z:Int):sgn z<0↔z<0:=by unfold sgn;split<;>(try split)<;>omega
theorem qi4(z:Int):sgn z<=0↔z<=0:=by unfold sgn;split<;>(try split)<;>omega
theorem jcn(i:Inf)(hi:i.bd 163 190 217)(h:i.A<=0\/i.d<=0)(W:World):xa 213 #[jf2 i] W (.tuple #[elE El.o,xc 1]):=by
 have hB:=hi;have bA:=hi.A;have bB:=hi.B;have bD:=hi.D;have bU:=hi.U;have bV:=hi.V;have ad:=bA.mul bD;have bb:=bB.mul bB;have dB:Bd (i.A*i.D-i.B*i.B) 327:=Bd.sub 326 ad bb;have du:=bD.mul bU;have bv:=bB.mul bV;have xB:Bd (i.D*i.U-i.B*i.V) 354:=Bd.sub 353 du bv;have av:=bA.mul bV;have bu:=bB.mul bU;have yB:Bd (i.A*i.V-i.B*i.U) 354:=Bd.sub 353 av bu;have lB:Bd ((i.Den-i.Z)*(i.A*i.D-i.B*i.B)+((i.D*(i.U*i.U)+i.A*(i.V*i.V)) + -(2*(i.B*(i.U*i.V))))) 546:=Q1t;have eD:i.A*i.D-i.B*i.B=i.d:=rfl;have eX:i.D*i.U-i.B*i.V=i.x:=rfl;have eY:i.A*i.V-i.B*i.U=i.y:=rfl;have eL:(i.Den-i.Z)*i.d+((i.D*(i.U*i.U)+i.A*(i.V*i.V)) + -(2*(i.B*(i.U*i.V))))=i.level:=rfl;rw[eD] at dB lB;rw[eX] at xB;rw[eY] at yB;rw[eL] at lB;have sB:=dB.mul dB;have pB:=lB.mul bD;have qB:=lB.mul bA;have rB:=lB.mul bB;have x2:=Bd.add 354 xB xB;have x3:=Bd.add 355 x2 dB;have y2:=Bd.add 354 yB yB;have y3:=Bd.add 355 y2 dB
 have d2:=Bd.add 327 dB dB;refine Q2e ?_;by_cases hA:i.A<=0
 .repeat' (first|(refine Ba ?_;first|refine Q4Z ?_|refine Q58 ?_|refine Bg (by rw[xh,qi4];exact hA) ?_)|refine qah Q8F ?_)
  all_goals rfl
 .have hd:i.d<=0:=by omega
  repeat' (first|(refine Ba ?_;first|refine Q4Z ?_|refine Q58 ?_|refine Bf (by rw[xj,qi4];exact hA) ?_|refine Bg (by rw[xh,qi4];exact hd) ?_)|refine qah Q8F ?_)
  all_goals rfl
theorem jco(i:Inf)(hi:i.bd 163 190 217)(hA:0<i.A)(hd:0<i.d)(hl:i.level<0)(W:World):xa 213 #[jf2 i] W (.tuple #[elE El.o,xc 3]):=by
 have hB:=hi;have bA:=hi.A;have bB:=hi.B;have bD:=hi.D;have bU:=hi.U;have bV:=hi.V;have ad:=bA.mul bD;have bb:=bB.mul bB;have dB:Bd (i.A*i.D-i.B*i.B) 327:=Bd.sub 326 ad bb;have du:=bD.mul bU;have bv:=bB.mul bV;have xB:Bd (i.D*i.U-i.B*i.V) 354:=Bd.sub 353 du bv;have av:=bA.mul bV;have bu:=bB.mul bU;have yB:Bd (i.A*i.V-i.B*i.U) 354:=Bd.sub 353 av bu;have lB:Bd ((i.Den-i.Z)*(i.A*i.D-i.B*i.B)+((i.D*(i.U*i.U)+i.A*(i.V*i.V)) + -(2*(i.B*(i.U*i.V))))) 546:=Q1t;have eD:i.A*i.D-i.B*i.B=i.d:=rfl;have eX:i.D*i.U-i.B*i.V=i.x:=rfl;have eY:i.A*i.V-i.B*i.U=i.y:=rfl;have eL:(i.Den-i.Z)*i.d+((i.D*(i.U*i.U)+i.A*(i.V*i.V)) + -(2*(i.B*(i.U*i.V))))=i.level:=rfl;rw[eD] at dB lB;rw[eX] at xB;rw[eY] at yB;rw[eL] at lB;have sB:=dB.mul dB;have pB:=lB.mul bD;have qB:=lB.mul bA;have rB:=lB.mul bB;have x2:=Bd.add 354 xB xB;have x3:=Bd.add 355 x2 dB;have y2:=Bd.add 354 yB yB;have y3:=Bd.add 355 y2 dB
 have d2:=Bd.add 327 dB dB;refine Q2e ?_;repeat' (first|(refine Ba ?_;first|refine Q4Z ?_|refine Q58 ?_|refine Bf Q9z ?_|refine Bg (by rw[xh,qjs];exact hl) ?_)|refine qah Q8F ?_)
 all_goals rfl
theorem jcp(i:Inf)(hi:i.bd 163 190 217)(hA:0<i.A)(hd:0<i.d)(hl:¬ i.level<0)(hm:i.mid.may)(W:World):xa 213 #[jf2 i] W (.tuple #[elE (qfp i.mid 1).1,xc (qfp i.mid 1).2]):=by
 have hB:=hi;have bA:=hi.A;have bB:=hi.B;have bD:=hi.D;have bU:=hi.U;have bV:=hi.V;have ad:=bA.mul bD;have bb:=bB.mul bB;have dB:Bd (i.A*i.D-i.B*i.B) 327:=Bd.sub 326 ad bb;have du:=bD.mul bU;have bv:=bB.mul bV;have xB:Bd (i.D*i.U-i.B*i.V) 354:=Bd.sub 353 du bv;have av:=bA.mul bV;have bu:=bB.mul bU;have yB:Bd (i.A*i.V-i.B*i.U) 354:=Bd.sub 353 av bu;have lB:Bd ((i.Den-i.Z)*(i.A*i.D-i.B*i.B)+((i.D*(i.U*i.U)+i.A*(i.V*i.V)) + -(2*(i.B*(i.U*i.V))))) 546:=Q1t;have eD:i.A*i.D-i.B*i.B=i.d:=rfl;have eX:i.D*i.U-i.B*i.V=i.x:=rfl;have eY:i.A*i.V-i.B*i.U=i.y:=rfl;have eL:(i.Den-i.Z)*i.d+((i.D*(i.U*i.U)+i.A*(i.V*i.V)) + -(2*(i.B*(i.U*i.V))))=i.level:=rfl;rw[eD] at dB lB;rw[eX] at xB;rw[eY] at yB;rw[eL] at lB;have sB:=dB.mul dB;have pB:=lB.mul bD;have qB:=lB.mul bA;have rB:=lB.mul bB;have x2:=Bd.add 354 xB xB;have x3:=Bd.add 355 x2 dB;have y2:=Bd.add 354 yB yB;have y3:=Bd.add 355 y2 dB
 have d2:=Bd.add 327 dB dB;have sP:0<i.d*i.d:=Int.mul_pos hd hd;have hmm:=hm;unfold El.may mayP qaz Inf.mid at hmm;simp only[] at hmm;have r1 : -9223372036854775808<=(jer i.x i.d)/\(jer i.x i.d)<9223372036854775808:=by omega
 have r2 : -9223372036854775808<=(jer i.y i.d)/\(jer i.y i.d)<9223372036854775808:=by omega
 have r3 : -9223372036854775808<=(jen (i.level*i.D) (i.d*i.d))/\(jen (i.level*i.D) (i.d*i.d))<9223372036854775808:=by omega
 have r4 : -9223372036854775808<=(jen (i.level*i.A) (i.d*i.d))/\(jen (i.level*i.A) (i.d*i.d))<9223372036854775808:=by omega
 have r5 : -9223372036854775808<=(-(i.level*i.B) / (i.d*i.d))/\(-(i.level*i.B) / (i.d*i.d))<9223372036854775808:=by omega
 have c1:=qdu r1;have c2:=qdu r2;have c3:=qdu r3;have c4:=qdu r4;have c5:=qdu r5;have z1:=c1.1;have b1:max 0 (e64 (jer i.x i.d))=0:=by rw[c1.2];rfl
 have z2:=c2.1;have b2:max 0 (e64 (jer i.y i.d))=0:=by rw[c2.2];rfl
 have z3:=c3.1;have b3:max 0 (e64 (jen (i.level*i.D) (i.d*i.d)))=0:=by rw[c3.2];rfl
 have z4:=c4.1;have b4:max 0 (e64 (jen (i.level*i.A) (i.d*i.d)))=0:=by rw[c4.2];rfl
 have z5:=c5.1;have b5:max 0 (e64 (-(i.level*i.B) / (i.d*i.d)))=0:=by rw[c5.2];rfl
 have wp:IntKind.i64.wrap (jen (i.level*i.D) (i.d*i.d)+1)=jen (i.level*i.D) (i.d*i.d)+1:=jep _ Q8E Q8E;have wq:IntKind.i64.wrap (jen (i.level*i.A) (i.d*i.d)+1)=jen (i.level*i.A) (i.d*i.d)+1:=jep _ Q8E Q8E;refine Q2e ?_;repeat' (first|(refine Ba ?_;first|refine Q4Z ?_|refine Q58 ?_|refine Q5g ?_|refine Q5d ?_|refine Q5e ?_|refine Q5L ?_|refine Bf (by rw[wp,wq];exact ndF hm) ?_|refine Bb (q8n i.mid 1 _ _ _ wp wq hm Q8I) ?_)|refine qah Q8F ?_)
 all_goals rfl
theorem jig(z:Int):((-9223372036854775808<=z/\z<9223372036854775808)/\e64 z=0)\/(¬ (-9223372036854775808<=z/\z<9223372036854775808))/\e64 z=2:=by
 by_cases h : -9223372036854775808<=z/\z<9223372036854775808
 .exact .inl ⟨h,(qdu h).2⟩
 .right;refine⟨h,?_⟩;have:=(qy9 h).1;unfold e64;rw[this];rfl
theorem jcq(i:Inf)(hi:i.bd 163 190 217)(hA:0<i.A)(hd:0<i.d)(hl:¬ i.level<0)(hm:¬ i.mid.may)(W:World):xa 213 #[jf2 i] W (.tuple #[elE El.o,xc 2]):=by
 have hB:=hi;have bA:=hi.A;have bB:=hi.B;have bD:=hi.D;have bU:=hi.U;have bV:=hi.V;have ad:=bA.mul bD;have bb:=bB.mul bB;have dB:Bd (i.A*i.D-i.B*i.B) 327:=Bd.sub 326 ad bb;have du:=bD.mul bU;have bv:=bB.mul bV;have xB:Bd (i.D*i.U-i.B*i.V) 354:=Bd.sub 353 du bv;have av:=bA.mul bV;have bu:=bB.mul bU;have yB:Bd (i.A*i.V-i.B*i.U) 354:=Bd.sub 353 av bu;have lB:Bd ((i.Den-i.Z)*(i.A*i.D-i.B*i.B)+((i.D*(i.U*i.U)+i.A*(i.V*i.V)) + -(2*(i.B*(i.U*i.V))))) 546:=Q1t;have eD:i.A*i.D-i.B*i.B=i.d:=rfl;have eX:i.D*i.U-i.B*i.V=i.x:=rfl;have eY:i.A*i.V-i.B*i.U=i.y:=rfl;have eL:(i.Den-i.Z)*i.d+((i.D*(i.U*i.U)+i.A*(i.V*i.V)) + -(2*(i.B*(i.U*i.V))))=i.level:=rfl;rw[eD] at dB lB;rw[eX] at xB;rw[eY] at yB;rw[eL] at lB;have sB:=dB.mul dB;have pB:=lB.mul bD;have qB:=lB.mul bA;have rB:=lB.mul bB;have x2:=Bd.add 354 xB xB;have x3:=Bd.add 355 x2 dB;have y2:=Bd.add 354 yB yB;have y3:=Bd.add 355 y2 dB
 have d2:=Bd.add 327 dB dB;have sP:0<i.d*i.d:=Int.mul_pos hd hd;by_cases hbad:max (max (max (max (max 0 (e64 (jer i.x i.d))) (e64 (jer i.y i.d))) (e64 (jen (i.level*i.D) (i.d*i.d)))) (e64 (jen (i.level*i.A) (i.d*i.d)))) (e64 (-(i.level*i.B) / (i.d*i.d)))=0
 .have k1:=jig (jer i.x i.d);have k2:=jig (jer i.y i.d);have k3:=jig (jen (i.level*i.D) (i.d*i.d));have k4:=jig (jen (i.level*i.A) (i.d*i.d));have k5:=jig (-(i.level*i.B) / (i.d*i.d));have r1 : -9223372036854775808<=(jer i.x i.d)/\(jer i.x i.d)<9223372036854775808:=by omega
  have r2 : -9223372036854775808<=(jer i.y i.d)/\(jer i.y i.d)<9223372036854775808:=by omega
  have r3 : -9223372036854775808<=(jen (i.level*i.D) (i.d*i.d))/\(jen (i.level*i.D) (i.d*i.d))<9223372036854775808:=by omega
  have r4 : -9223372036854775808<=(jen (i.level*i.A) (i.d*i.d))/\(jen (i.level*i.A) (i.d*i.d))<9223372036854775808:=by omega
  have r5 : -9223372036854775808<=(-(i.level*i.B) / (i.d*i.d))/\(-(i.level*i.B) / (i.d*i.d))<9223372036854775808:=by omega
  have c1:=qdu r1;have c2:=qdu r2;have c3:=qdu r3;have c4:=qdu r4;have c5:=qdu r5;have z1:=c1.1;have b1:max 0 (e64 (jer i.x i.d))=0:=by rw[c1.2];rfl
  have z2:=c2.1;have b2:max 0 (e64 (jer i.y i.d))=0:=by rw[c2.2];rfl
  have z3:=c3.1;have b3:max 0 (e64 (jen (i.level*i.D) (i.d*i.d)))=0:=by rw[c3.2];rfl
  have z4:=c4.1;have b4:max 0 (e64 (jen (i.level*i.A) (i.d*i.d)))=0:=by rw[c4.2];rfl
  have z5:=c5.1;have b5:max 0 (e64 (-(i.level*i.B) / (i.d*i.d)))=0:=by rw[c5.2];rfl
  by_cases hp:70368744177664<=jen (i.level*i.D) (i.d*i.d)
  .refine Q2e ?_;repeat' (first|(refine Ba ?_;first|refine Q4Z ?_|refine Q58 ?_|refine Q5g ?_|refine Q5d ?_|refine Bg (by rw[xh];exact hp) ?_)|refine qah Q8F ?_)
   all_goals rfl
  by_cases hq:70368744177664<=jen (i.level*i.A) (i.d*i.d)
  .refine Q2e ?_;repeat' (first|(refine Ba ?_;first|refine Q4Z ?_|refine Q58 ?_|refine Q5g ?_|refine Q5d ?_|refine Bf (by rw[xj];exact hp) ?_|refine Bg (by rw[xh];exact hq) ?_)|refine qah Q8F ?_)
   all_goals rfl
  .have wp:IntKind.i64.wrap (jen (i.level*i.D) (i.d*i.d)+1)=jen (i.level*i.D) (i.d*i.d)+1:=jep _ Q8E Q8E;have wq:IntKind.i64.wrap (jen (i.level*i.A) (i.d*i.d)+1)=jen (i.level*i.A) (i.d*i.d)+1:=jep _ Q8E Q8E;refine Q2e ?_;repeat' (first|(refine Ba ?_;first|refine Q4Z ?_|refine Q58 ?_|refine Q5g ?_|refine Q5d ?_|refine Q5e ?_|refine Q5L ?_|refine Bg (by rw[wp,wq];exact ndT hm) ?_)|refine qah Q8F ?_)
   all_goals rfl
 .have z1:=rfl (a:=n64 (jer i.x i.d));have z2:=rfl (a:=n64 (jer i.y i.d));have z3:=rfl (a:=n64 (jen (i.level*i.D) (i.d*i.d)));have z4:=rfl (a:=n64 (jen (i.level*i.A) (i.d*i.d)));have z5:=rfl (a:=n64 (-(i.level*i.B) / (i.d*i.d)));have b1:=rfl (a:=(max 0 (e64 (jer i.x i.d))));have b2:=rfl (a:=(max (max 0 (e64 (jer i.x i.d))) (e64 (jer i.y i.d))));have b3:=rfl (a:=(max (max (max 0 (e64 (jer i.x i.d))) (e64 (jer i.y i.d))) (e64 (jen (i.level*i.D) (i.d*i.d)))));have b4:=rfl (a:=(max (max (max (max 0 (e64 (jer i.x i.d))) (e64 (jer i.y i.d))) (e64 (jen (i.level*i.D) (i.d*i.d)))) (e64 (jen (i.level*i.A) (i.d*i.d)))));have b5:=rfl (a:=(max (max (max (max (max 0 (e64 (jer i.x i.d))) (e64 (jer i.y i.d))) (e64 (jen (i.level*i.D) (i.d*i.d)))) (e64 (jen (i.level*i.A) (i.d*i.d)))) (e64 (-(i.level*i.B) / (i.d*i.d)))));refine Q2e ?_
  repeat' (first|(refine Ba ?_;first|refine Q4Z ?_|refine Q58 ?_|refine Bf Q9z ?_|refine Bf (by rw[xj,qjs];omega) ?_|refine Bb (jms i.x i.d 0 (n64 (jer i.x i.d)) (max 0 (e64 (jer i.x i.d))) 75 _ xB.top x2.top x3.top hd dB.top d2.top z1 b1 Q8F) ?_|refine Bb (jms i.y i.d (max 0 (e64 (jer i.x i.d))) (n64 (jer i.y i.d)) (max (max 0 (e64 (jer i.x i.d))) (e64 (jer i.y i.d))) 75 _ yB.top y2.top y3.top hd dB.top d2.top z2 b2 Q8F) ?_|refine Bb (jmt (i.level*i.D) (i.d*i.d) (max (max 0 (e64 (jer i.x i.d))) (e64 (jer i.y i.d))) (n64 (jen (i.level*i.D) (i.d*i.d))) (max (max (max 0 (e64 (jer i.x i.d))) (e64 (jer i.y i.d))) (e64 (jen (i.level*i.D) (i.d*i.d)))) 75 _ pB.top sP sB.top z3 b3 Q8F) ?_|refine Bb (jmt (i.level*i.A) (i.d*i.d) (max (max (max 0 (e64 (jer i.x i.d))) (e64 (jer i.y i.d))) (e64 (jen (i.level*i.D) (i.d*i.d)))) (n64 (jen (i.level*i.A) (i.d*i.d))) (max (max (max (max 0 (e64 (jer i.x i.d))) (e64 (jer i.y i.d))) (e64 (jen (i.level*i.D) (i.d*i.d)))) (e64 (jen (i.level*i.A) (i.d*i.d)))) 75 _ qB.top sP sB.top z4 b4 Q8F) ?_|refine Bb (jp2 (-(i.level*i.B)) (i.d*i.d) (max (max (max (max 0 (e64 (jer i.x i.d))) (e64 (jer i.y i.d))) (e64 (jen (i.level*i.D) (i.d*i.d)))) (e64 (jen (i.level*i.A) (i.d*i.d)))) (n64 (-(i.level*i.B) / (i.d*i.d))) (max (max (max (max (max 0 (e64 (jer i.x i.d))) (e64 (jer i.y i.d))) (e64 (jen (i.level*i.D) (i.d*i.d)))) (e64 (jen (i.level*i.A) (i.d*i.d)))) (e64 (-(i.level*i.B) / (i.d*i.d)))) 75 _ rB.neg.top sP sB.top z5 b5 Q8F) ?_|refine Bg (neT hbad) ?_)|refine qah Q8F ?_)
  all_goals rfl
theorem jqt(i:Inf)(h:Hp)(hi:i.bd 163 190 217):qae prog 213 [jf2 i] h (.tuple #[elE (jif i).1,xc (jif i).2]) [] []:=by
 refine qai (by simp[qbc]) rfl (call213 _) λW=>?_
 unfold jif;by_cases h1:i.A<=0\/i.d<=0
 .rw[if_pos h1];exact jcn i hi h1 W
 rw[if_neg h1];by_cases h2:i.level<0
 .rw[if_pos h2];exact jco i hi Q8E Q8E h2 W
 rw[if_neg h2];by_cases h3:i.mid.may
 .rw[if_pos h3];exact jcp i hi Q8E Q8E h2 h3 W
 .rw[if_neg h3];exact jcq i hi Q8E Q8E h2 h3 W
theorem q8o(i j:Inf)(w:Int)(hw:0<=w/\w<=34)(hi:i.bd 51 78 105)(hj:j.bd 51 78 105)(W:World):xa 192 #[jf2 i,jf2 j,xc w,xc 0] W (.tuple #[elE (jif (jir i j w)).1,xc (jif (jir i j w)).2]):=by
 have mb:=jck hw hi hj;refine qac (G:=tys) W tysOK mixed func192 Q8F (by simp[qbc];exact⟨rfl,rfl⟩) Q8F ?_;repeat' (first|(refine Ba ?_;first|refine Q4Z ?_|refine Bc (qct _) ?_|refine Bb (jqp i j w _ hw hi hj) ?_|refine Q5d ?_|refine Bb (jqt (jir i j w) _ mb) ?_)|refine qah Q8F ?_)
 all_goals rfl
theorem q50(i j:Inf)(w:Int)(h:Hp)(hw:0<=w/\w<=34)(hi:i.bd 51 78 105)(hj:j.bd 51 78 105):qae prog 192 [jf2 i,jf2 j,xc w,xc 0] h (.tuple #[elE (jif (jir i j w)).1,xc (jif (jir i j w)).2]) [] []:=
 qai (by simp[qbc];exact⟨rfl,rfl⟩) rfl (call192 _) (q8o i j w hw hi hj)
theorem q8p(e f:El)(w:Int)(hw:0<=w/\w<=34)(he:e.may)(hf:f.may)(W:World):xa 167 #[elE e,elE f,xc w] W (.tuple #[elE (jel e f w).1,xc (jel e f w).2]):=by
 unfold jel;rw[if_pos hw];refine qac (G:=tys) W tysOK mixed func167 Q8F Q8F Q8F ?_;repeat' (first|(refine Ba ?_;first|refine Q4Z ?_|refine Bc (qct _) ?_|refine Bb (joe e _ he) ?_|refine Bb (joe f _ hf) ?_|refine Q67 ?_|refine Bb (q50 e.inf f.inf w _ hw (quu he) (quu hf)) ?_)|refine qah Q8F ?_)
 all_goals rfl
theorem jcr(e f:El)(w:Int)(h:Hp)(hw:0<=w/\w<=34)(he:e.may)(hf:f.may):qae prog 167 [elE e,elE f,xc w] h (.tuple #[elE (jel e f w).1,xc (jel e f w).2]) [] []:=
 qai rfl rfl (call167 _) (q8p e f w hw he hf)
theorem jcs(e:El)(s:Strip)(w:Int)(hw:0<=w/\w<=34)(he:e.may)(hs:s.may)(W:World):xa 221 #[elE e,stV s,xc w] W (.tuple #[elE (jem e s w).1,xc (jem e s w).2]):=by
 unfold jem;rw[if_pos hw];refine qac (G:=tys) W tysOK mixed func221 Q8F Q8F Q8F ?_;repeat' (first|(refine Ba ?_;first|refine Q4Z ?_|refine Bc (qct _) ?_|refine Bb (joe e _ he) ?_|refine Bb (q3q s _ hs) ?_|refine Q67 ?_|refine Bb (q50 e.inf s.inf w _ hw (quu he) (q3p hs)) ?_)|refine qah Q8F ?_)
 all_goals rfl
theorem jog(e:El)(s:Strip)(w:Int)(h:Hp)(hw:0<=w/\w<=34)(he:e.may)(hs:s.may):qae prog 221 [elE e,stV s,xc w] h (.tuple #[elE (jem e s w).1,xc (jem e s w).2]) [] []:=
 qai rfl rfl (call221 _) (jcs e s w hw he hs)
def qlr(e:El)(x y:Int):Int:=(usq (jfo e.a e.b e.d x y).toNat:Nat)
def jg4(lo hi:Int):Prop:=0<=lo/\lo<=hi/\hi<=4194304
instance(lo hi:Int):Decidable (jg4 lo hi):=by unfold jg4;infer_instance
def jih(h w k m:Int):Int:=if 0<h-w then (if 0<h*m*m-k*k then max (h-w) (isq (h*m*m-k*k).toNat:Nat) else h-w) else h-w
def jha(h w far:Int):Int:=min (h+w) (usq (h*far*far).toNat:Nat)
def jfc(e n:El)(lo hi:Int):Strip:=
 ⟨n.x,n.y,e.x-n.x,e.y-n.y,jih ((e.x-n.x)*(e.x-n.x)+(e.y-n.y)*(e.y-n.y)) (qlr e (e.x-n.x) (e.y-n.y)) (qlr e (-(e.y-n.y)) (e.x-n.x)) (max 0 (lo-n.rad)),jha ((e.x-n.x)*(e.x-n.x)+(e.y-n.y)*(e.y-n.y)) (qlr e (e.x-n.x) (e.y-n.y)) (hi+n.rad)⟩
def je3(e n:El)(lo hi:Int):Strip×Int:=
 if ¬ (e.may/\n.may/\jg4 lo hi) then (⟨0,0,0,0,0,0⟩,1)
 else if e.x-n.x=0/\e.y-n.y=0 then (⟨0,0,0,0,0,0⟩,7)
 else if (jfc e n lo hi).hi<(jfc e n lo hi).lo then (⟨0,0,0,0,0,0⟩,3)
 else if (jfc e n lo hi).hi=(jfc e n lo hi).lo then ({ jfc e n lo hi with hi:=(jfc e n lo hi).hi+1 },0)
 else (jfc e n lo hi,0)
def jft(e n:El)(hi:Int):El×Int:=
 if 1<=hi+n.rad/\hi+n.rad<=4194304 then (if (jes e (jez n.x n.y (hi+n.rad))).2=3 then (El.o,3) else if (jes e (jez n.x n.y (hi+n.rad))).2=0 then ((jes e (jez n.x n.y (hi+n.rad))).1,0) else (e,0)) else (e,0)
def qcd(e n:El)(lo hi:Int):El×Int:=
 if (je3 e n lo hi).2=3 then (El.o,3) else if (je3 e n lo hi).2=0 then (if (jf4 e (je3 e n lo hi).1).2=3 then (El.o,3) else if (jf4 e (je3 e n lo hi).1).2=0 then ((jf4 e (je3 e n lo hi).1).1,0) else (e,0)) else (e,0)
def qbm(e n:El)(lo hi:Int):El×Int:=
 if e.may/\n.may/\jg4 lo hi then (if (jft e n hi).2=3 then (El.o,3) else qcd (jft e n hi).1 n lo hi) else (El.o,1)
def qb7(n:El)(hi:Int):El×Int:=
 if n.may/\0<=hi/\hi<=4194304 then (if 4194304<hi+n.rad then (El.o,2) else (jez n.x n.y (max 1 (hi+n.rad)),0)) else (El.o,1)
structure Flr where
 most:Int
 valid:Bool
 e:El
def Flr.set(f:Flr)(e:El):Flr:=if e.may/\e.tr<=f.most then ⟨f.most,true,e⟩ else f
def Flr.took(f:Flr)(r:El×Int):Flr:=if r.2=0 then ⟨f.most,f.valid,r.1⟩ else if r.2=3 then ⟨f.most,false,El.o⟩ else f
def Flr.range(f:Flr)(n:El)(lo hi:Int):Flr:=
 if f.valid then f.took (qbm f.e n lo hi) else if (qb7 n hi).2=0 then f.set (qb7 n hi).1 else f
def Flr.meet(f:Flr)(e:El):Flr:=if f.valid then f.took (jes f.e e) else f.set e
def qbo(t:Int):Prop:=0<=t/\t<=1000000
instance(t:Int):Decidable (qbo t):=by unfold qbo;infer_instance
def qfq(w now skew:Int):Int:=if qbo w/\qbo now/\qbo skew then max 0 (now-w)+2*skew+1 else 0
def qcu(e:El)(w now speed skew:Int):El×Int:=if e.may/\qbo w/\qbo now/\qbo skew/\0<=speed/\speed<=4194304 then jgx e speed (qfq w now skew) else (El.o,1)
def qi5(old fresh:El):El×Int:=if fresh.may then (if (jes old fresh).2=0 then ((jes old fresh).1,0) else (fresh,0)) else (El.o,1)
theorem trf(h:e.may):e.tr=e.a+e.d:=by grind[El.tr]
def apart(X Y x y lo hi:Int):Prop:=lo*lo<=(X-x)*(X-x)+(Y-y)*(Y-y)/\(X-x)*(X-x)+(Y-y)*(Y-y)<=hi*hi
theorem q8q{x y r:Int}(h:qaz 4194304 x y)(hr:1<=r/\r<=4194304):(jez x y r).may:=by
 have h1:1*1<=r*r:=yC Q8E Q8E Q8E Q8E;have h2:r*r<=4194304*4194304:=yC Q8E Q8E Q8E Q8E;have h3:1*1<=(r*r)*(r*r):=yC Q8E Q8E Q8E Q8E;show qaz 4194304 x y/\(1<=r*r/\r*r<=70368744177664)/\(1<=r*r/\r*r<=70368744177664)/\(-70368744177664<=(0:Int)/\(0:Int)<=70368744177664)/\0<r*r*(r*r)-0*0
 grind
def Flr.holds(f:Flr)(X Y:Int):Prop:=f.valid=true->f.e.may/\f.e.at X Y
end Go.Proofs.YtfkngpmgcimdbaaGreat
