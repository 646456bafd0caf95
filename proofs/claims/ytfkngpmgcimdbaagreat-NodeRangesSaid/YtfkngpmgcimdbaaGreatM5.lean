/-
  The walk of bits.Div64.
-/
import Derived.IntWalk
import Derived.Test.YtfkngpmgcimdbaaGreatM4
set_option linter.unusedVariables false
set_option linter.unusedSimpArgs false
set_option maxRecDepth 100000
set_option maxHeartbeats 20000000
theorem Go.Proofs.yC:type_of% @Nat.mul_le_mul:=@Nat.mul_le_mul
theorem Go.Proofs.zu:type_of% @Nat.mul_lt_mul_of_pos_right:=@Nat.mul_lt_mul_of_pos_right
theorem Go.Proofs.zB:type_of% @Nat.add_sub_cancel_left:=@Nat.add_sub_cancel_left
theorem Go.Proofs.zg:type_of% @Nat.mul_lt_mul'':=@Nat.mul_lt_mul''
theorem Go.Proofs.zv:type_of% @Int.natAbs_mul:=@Int.natAbs_mul
theorem Go.Proofs.yG:type_of% @Int.natAbs_neg:=@Int.natAbs_neg
theorem Go.Proofs.zC:type_of% @Bool.not_eq_false':=@Bool.not_eq_false'
theorem Go.Proofs.yQ:type_of% @Int.natAbs_natCast:=@Int.natAbs_natCast
theorem Go.Proofs.xy:type_of% @Int.mul_nonneg:=@Int.mul_nonneg
theorem Go.Proofs.yd:type_of% @Int.le_of_lt:=@Int.le_of_lt
open Go.Proofs.Tryz
namespace Go.Proofs
section
variable {Z Y:Prop}
theorem Q00(h:Z:=by
 have G:=Knuth.first (u:=v) (d:=d0) y1a y1b y0h d0h Q9H;have hq1:=G.le;have hq2:=G.sum;have hr1:=xv v (show 0<y1 by omega);have f8:(v:Int).tdiv y1=((v / y1:Nat):Int):=rfl;have f8':(v:Int) / y1=((v / y1:Nat):Int):=rfl;generalize v / y1=q0 at *;generalize v%y1=r0 at *;have hqy:((q0*y1:Nat):Int)=(q0:Int)*(y1:Int):=x6 _ _;have f9:IntKind.u64.wrap ((q0:Int)*(y1:Int))=((q0*y1:Nat):Int):=by rw[xq,<-hqy];omega
 have f10:IntKind.u64.wrap ((v:Int)-((q0*y1:Nat):Int))=(r0:Int):=by rw[xq];omega
 have f11:IntKind.u64.wrap (q0:Int)=(q0:Int):=by rw[xq];simp only[Knuth.h] at hq1;omega
 generalize hqq:q0*y1=qy at *;clear hqy hqq hq2
 go_wp2_with fail
 clear f8 f8' f9 f10 f11 a1 a2 a3 a4 e1 e2 e3 e5;have hr2':r0<4294967296:=by omega
 have HG':=Lib.hid G;clear G hq1 hr1 HG hr2 HH HS;have hr2:=hr2';have HG:=HG';clear hr2' HG'
 go_loopw [16,18] (fun a b wr=>wr=w/\∃ q r:Nat,b=.int .u64 q/\a=.int .u64 r/\r<4294967296/\Hid (Knuth.Guess y1 y0 v d0 q r)) (fun a b _=>(intOf b).toNat)
 case atStart=>exact⟨rfl,_,_,rfl,rfl,hr2,HG⟩
 case round=>
  clear HG hr2
  obtain⟨e0,q,r,rfl,rfl,hr2,HG⟩:=hrel
  have e0':=e0.symm
  clear e0
  subst e0'
  have hu':v<y1*Knuth.h+y0:=by have:=HE.out.1;show v<y1*4294967296+y0;omega
  have hq1:q<=4294967297:=HG.out.le
  obtain⟨m,hm⟩:∃ m:Nat,q*y0=m:=⟨_,rfl⟩
  have hm1:m<=4294967297*4294967295:=by rw[<-hm];exact yC hq1 Q8G
  have e1:IntKind.u64.wrap ((q:Int)*(y0:Int))=(m:Int):=by
   rw[<-x6,hm,xq];omega
  obtain⟨k0,hk0⟩:∃ k:Nat,4294967296*r=k:=⟨_,rfl⟩
  have e2:IntKind.u64.wrap (4294967296*(r:Int))=(k0:Int):=by rw[xq];omega
  obtain⟨k,hk⟩:∃ k:Nat,k0+d0=k:=⟨_,rfl⟩
  have e3:IntKind.u64.wrap ((k0:Int)+(d0:Int))=(k:Int):=by rw[xq];omega
  have hkk:Knuth.h*r+d0=k:=by simp only[Knuth.h];omega
  have hdn:Knuth.h<=q\/k<m->0<q/\Knuth.Guess y1 y0 v d0 (q-1) (r+y1):=fun ht=>Knuth.down d0h hu' HG.out (by rw[hkk,hm];exact ht)
  have hst:q<Knuth.h->m<=k->q=(v*Knuth.h+d0) / (y1*Knuth.h+y0):=fun h1 h2=>Knuth.stop d0h hu' HG.out h1 (by rw[hkk,hm];exact h2)
  obtain⟨r',hr'⟩:∃ r',r+y1=r':=⟨_,rfl⟩
  have e5:IntKind.u64.wrap ((r:Int)+(y1:Int))=(r':Int):=by rw[xq];omega
  have hr3:r'<18446744073709551616:=by omega
  rw[hr'] at hdn
  have HH:=Lib.hid hdn
  have HS:=Lib.hid hst
  have hq64:(q:Int)<18446744073709551616:=by omega
  clear hm hk0 hk hkk hdn hst hm1 hr'
  by_cases hA:4294967296<=q
  ·have HT:Hid (Knuth.h<=q\/k<m):=.inl hA;have t1:decide ((q:Int)>=4294967296)=true:=xi Q8G;have t1':(4294967296:Int)<=(q:Int):=by omega
   clear hA;exact Q11
  ·by_cases hB:k<m
   ·have HT:Hid (Knuth.h<=q\/k<m):=.inr hB;have t1:¬ (4294967296:Int)<=(q:Int):=by omega
    have t2:(k:Int)<(m:Int):=by omega
    clear hA hB;exact Q11
   ·have HF:=Lib.hid (HS.out Q9M Q8G);have t1:¬ (4294967296:Int)<=(q:Int):=by omega
    have t2:¬ (k:Int)<(m:Int):=by omega
    clear hA hB hq1;have hdq:(v*4294967296+d0) / Y=q:=by rw[HE.out.1];exact HF.out.symm
    have hq0:q<4294967296:=by rw[<-hdq,HE.out.1];exact Knuth.digit_lt (y1:=y1) (y0:=y0) d0h Q9H
    have bE:=xE (v*4294967296+d0) Y;have bQ:(v*4294967296+d0) / Y=q:=hdq;rw[bQ] at bE;have bL:=xv (v*4294967296+d0) (show 0<Y by omega);obtain⟨R,RE⟩:∃ z,(v*4294967296+d0)%Y=z:=⟨_,rfl⟩;rw[RE] at bE bL;obtain⟨bC,bCE⟩:∃ c,q*Y%18446744073709551616=c:=⟨_,rfl⟩;have b3:IntKind.u64.wrap ((q:Int)*(Y:Int))=(bC:Int):=by rw[<-x6,xq];omega
    rw[xl Y] at bE;obtain⟨bA,bAE⟩:∃ c,v*4294967296%18446744073709551616=c:=⟨_,rfl⟩;have b1:IntKind.u64.wrap ((v:Int)*4294967296)=(bA:Int):=by rw[xq];omega
    obtain⟨bB,bBE⟩:∃ c,(bA+d0)%18446744073709551616=c:=⟨_,rfl⟩;have b2:IntKind.u64.wrap ((bA:Int)+(d0:Int))=(bB:Int):=by rw[xq];omega
    have b4:IntKind.u64.wrap ((bB:Int)-(bC:Int))=(R:Int):=by
     rw[xq];generalize q*Y=P at *;omega
    have HR0':=Lib.hid RE;clear bE bCE bAE bBE RE;obtain⟨Q1,hQ1⟩:∃ c:Nat,qa*4294967296=c:=⟨_,rfl⟩;have c1:IntKind.u64.wrap ((qa:Int)*4294967296)=(Q1:Int):=by rw[xq];omega
    obtain⟨Q,hQ⟩:∃ c:Nat,Q1+q=c:=⟨_,rfl⟩;have c2:IntKind.u64.wrap ((Q1:Int)+(q:Int))=(Q:Int):=by rw[xq];omega
    have HR:Hid (Q=d64q hi lo y/\R / 2^s=d64r hi lo y):=by
     show Q=(hi*18446744073709551616+lo) / y/\R / 2^s=(hi*18446744073709551616+lo)%y;have e2:=Knuth.two u d1 d0 Y Q8G;have el:=HE.out.2;have eN:u*18446744073709551616+l=u*Knuth.h*Knuth.h+d1*Knuth.h+d0:=Knuth.join u l d1 d0 el;rw[<-eN] at e2;rw[<-hbk.1,<-hbk.2,e2.1,e2.2];have x1:(u*Knuth.h+d1) / Y=qa:=HD1.out;have x2:(u*Knuth.h+d1)%Y=v:=Hv.out;have x3:(v*Knuth.h+d0) / Y=q:=hdq;have x4:(v*Knuth.h+d0)%Y=R:=HR0'.out;rw[x1,x2,x3,x4];refine⟨?_,rfl⟩;show Q=qa*4294967296+q;rw[<-hQ,<-hQ1]
    exact Q2W):Z:=h
theorem Q0k(h:Z:=by
 intro x hx;obtain⟨hx0,hx1,hx2⟩:=hx;have hng:=qqt v x hx0;have hqx:v / x<=v:=yA _ _;have hsum:x+v / x<Bs^16:=xC (qso (by have:=jmm;have:=jpn;omega)) qbr;have hy16:(x+v / x) / 2<Bs^16:=xR (yA _ _) hsum;have hx16:x<Bs^16:=xR (Nat.le_add_right _ _) hsum;by_cases hge:x<=(x+v / x) / 2
 ·have he:=qmv v x hx0 hx2 hge;repeat' (refine Bb ?_;first|refine Q55 ?_|refine Q5T ?_|refine Bf Q9X ?_|fail)
  all_goals (rw[he];rfl)
 ·repeat' (refine Bb ?_;first|refine Q55 ?_|refine Q5T ?_|refine Be Q9T ?_|fail)
  refine Bb ?_;refine N.next ((x+v / x) / 2) ⟨⟨by omega,by omega,hng⟩,by omega⟩ ?_;repeat (refine Bb ?_;first|exact Bg|with_reducible (first|refine Ba rfl ?_|refine Ba (ChunkLe.refl _) ?_|refine Ba (qhd (qiu _ _)) ?_|refine Ba (qhd (qoh _ _ _)) ?_|refine Ba (qhe (qcy _ _) (qiu _ _)) ?_|refine Ba (qhe (qhz _ _ _) (qoh _ _ _)) ?_)|refine Ba True.intro ?_|refine Ba (show jid _ _=true from rfl) ?_|refine Ba (qhd Q8I) ?_|refine Ba (qhe rfl Q8I) ?_)):Z:=h
theorem Q0t(h:Z:=by exact Q3g):Z:=h
theorem Q0M(h:Z:=by ·exact Q3u):Z:=h
theorem Q0Q(k:Y)(h:Wr Y->Z:=by
 intro kQ;refine qac (G:=tys) w tysOK mixed func130 Q8I Q8K Q8J ?_;exact kQ.o):Z:=h ⟨k⟩
theorem Q0T(h:Z:=by repeat' (refine Bb ?_;first|refine Q55 ?_|refine Q5q ?_|refine Q5G ?_|exact Bg|fail)):Z:=h
theorem Q11(h:Z:=by
 obtain⟨h0q,hG2⟩:=HH.out (HT.out);obtain⟨q',hq'⟩:∃ q',q-1=q':=⟨_,rfl⟩;rw[hq'] at hG2;have HG2:=Lib.hid hG2;have e4:IntKind.u64.wrap ((q:Int)-1)=(q':Int):=by rw[xq];omega
 have HQ:=Lib.hid (show q=q'+1 from by omega);have hq2:q'<=4294967296:=by omega
 clear hG2 hq' h0q hq1;by_cases hbr:(4294967296:Int)<=(r':Int)
 ·have HF:=Lib.hid (Knuth.stop' y0h d0h hu' HG2.out hq2 Q9M);clear hq2;have hdq:(v*4294967296+d0) / Y=q':=by rw[HE.out.1];exact HF.out.symm
  have hq0:q'<4294967296:=by rw[<-hdq,HE.out.1];exact Knuth.digit_lt (y1:=y1) (y0:=y0) d0h Q9H
  have bE:=xE (v*4294967296+d0) Y;have bQ:(v*4294967296+d0) / Y=q':=hdq;rw[bQ] at bE;have bL:=xv (v*4294967296+d0) (show 0<Y by omega);obtain⟨R,RE⟩:∃ z,(v*4294967296+d0)%Y=z:=⟨_,rfl⟩;rw[RE] at bE bL;obtain⟨bC,bCE⟩:∃ c,q'*Y%18446744073709551616=c:=⟨_,rfl⟩;have b3:IntKind.u64.wrap ((q':Int)*(Y:Int))=(bC:Int):=by rw[<-x6,xq];omega
  rw[xl Y] at bE;obtain⟨bA,bAE⟩:∃ c,v*4294967296%18446744073709551616=c:=⟨_,rfl⟩;have b1:IntKind.u64.wrap ((v:Int)*4294967296)=(bA:Int):=by rw[xq];omega
  obtain⟨bB,bBE⟩:∃ c,(bA+d0)%18446744073709551616=c:=⟨_,rfl⟩;have b2:IntKind.u64.wrap ((bA:Int)+(d0:Int))=(bB:Int):=by rw[xq];omega
  have b4:IntKind.u64.wrap ((bB:Int)-(bC:Int))=(R:Int):=by
   rw[xq];generalize q'*Y=P at *;omega
  have HR0':=Lib.hid RE;clear bE bCE bAE bBE RE;obtain⟨Q1,hQ1⟩:∃ c:Nat,qa*4294967296=c:=⟨_,rfl⟩;have c1:IntKind.u64.wrap ((qa:Int)*4294967296)=(Q1:Int):=by rw[xq];omega
  obtain⟨Q,hQ⟩:∃ c:Nat,Q1+q'=c:=⟨_,rfl⟩;have c2:IntKind.u64.wrap ((Q1:Int)+(q':Int))=(Q:Int):=by rw[xq];omega
  have HR:Hid (Q=d64q hi lo y/\R / 2^s=d64r hi lo y):=by
   show Q=(hi*18446744073709551616+lo) / y/\R / 2^s=(hi*18446744073709551616+lo)%y;have e2:=Knuth.two u d1 d0 Y Q8G;have el:=HE.out.2;have eN:u*18446744073709551616+l=u*Knuth.h*Knuth.h+d1*Knuth.h+d0:=Knuth.join u l d1 d0 el;rw[<-eN] at e2;rw[<-hbk.1,<-hbk.2,e2.1,e2.2];have x1:(u*Knuth.h+d1) / Y=qa:=HD1.out;have x2:(u*Knuth.h+d1)%Y=v:=Hv.out;have x3:(v*Knuth.h+d0) / Y=q':=hdq;have x4:(v*Knuth.h+d0)%Y=R:=HR0'.out;rw[x1,x2,x3,x4];refine⟨?_,rfl⟩;show Q=qa*4294967296+q';rw[<-hQ,<-hQ1]
  exact Q2W
 ·exact Q3u):Z:=h
theorem Q14(h:Z:=by
 obtain⟨h0q,hG2⟩:=HH.out (HT.out);obtain⟨q',hq'⟩:∃ q',q-1=q':=⟨_,rfl⟩;rw[hq'] at hG2;have HG2:=Lib.hid hG2;have e4:IntKind.u64.wrap ((q:Int)-1)=(q':Int):=by rw[xq];omega
 have HQ:=Lib.hid (show q=q'+1 from by omega);have hq2:q'<=4294967296:=by omega
 clear hG2 hq' h0q hq1;by_cases hbr:(4294967296:Int)<=(r':Int)
 ·have HF:=Lib.hid (Knuth.stop' y0h d1h hu' HG2.out hq2 Q9M);clear hq2;have hdq1:(u*4294967296+d1) / Y=q':=by rw[HE.out.1];exact HF.out.symm
  have hq1h:q'<4294967296:=by rw[<-hdq1,HE.out.1];exact Knuth.digit_lt (y1:=y1) (y0:=y0) d1h hu'
  have HD1:=Lib.hid hdq1;have aE:=xE (u*4294967296+d1) Y;have aQ:(u*4294967296+d1) / Y=q':=hdq1;rw[aQ] at aE;have aL:=xv (u*4294967296+d1) (show 0<Y by omega);obtain⟨v,vE⟩:∃ z,(u*4294967296+d1)%Y=z:=⟨_,rfl⟩;rw[vE] at aE aL;obtain⟨aC,aCE⟩:∃ c,q'*Y%18446744073709551616=c:=⟨_,rfl⟩;have a3:IntKind.u64.wrap ((q':Int)*(Y:Int))=(aC:Int):=by rw[<-x6,xq];omega
  rw[xl Y] at aE;obtain⟨aA,aAE⟩:∃ c,u*4294967296%18446744073709551616=c:=⟨_,rfl⟩;have a1:IntKind.u64.wrap ((u:Int)*4294967296)=(aA:Int):=by rw[xq];omega
  obtain⟨aB,aBE⟩:∃ c,(aA+d1)%18446744073709551616=c:=⟨_,rfl⟩;have a2:IntKind.u64.wrap ((aA:Int)+(d1:Int))=(aB:Int):=by rw[xq];omega
  have a4:IntKind.u64.wrap ((aB:Int)-(aC:Int))=(v:Int):=by
   rw[xq];generalize q'*Y=P at *;omega
  have Hv:=Lib.hid vE;clear aE aCE aAE aBE vE;have hvY:v<Y:=aL;clear aQ hdq1 aL HF;obtain⟨qa,rfl⟩:∃ c,c=q':=⟨_,rfl⟩;exact Q00
 exact Q0M):Z:=h
theorem Q1c(h:Z:=by
 refine Q3w ?_;repeat' (refine Bb ?_;first|with_reducible (first|refine Ba Q8H ?_|refine Ba (qab _ _ _) ?_|refine Ba (qaa _ _) ?_|refine Bk ?_|refine Ba rfl ?_|refine Ba ⟨by kernel_rfl,by kernel_rfl⟩ ?_|refine Bj ?_|refine Bh ?_|refine Bi ?_|refine Bc (jd6 _ _ _ _ _ _) ?_|refine Bc (qle _ _ _ _ Q8H) ?_)|refine Q5A ?_|refine Bf (xi Q92) ?_|refine Be (xf Q92) ?_|fail)
 all_goals rfl):Z:=h
theorem Q1e(h:Z:=by
 have hv16:=xC hv qbr;have hu16:=xC hu qbr;refine Q37 ?_;repeat' (refine Bb ?_;first|refine Q55 ?_|refine Bc (jhk _ _ _ _ _ _ _ (qcu Q8I) (qcu Q8I) hv16 hu16) ?_|refine Bc (jhk _ _ _ _ _ _ _ (qcu Q8I) (qcu Q8I) hu16 hv16) ?_|refine Q5d ?_|fail)
 all_goals rfl):Z:=h
theorem Q1h(h:Z:=by
 have hv16:=xC hv qbr;have hu16:=xC hu qbr;refine Q0Q ?_;repeat' (refine Bb ?_;first|refine Q55 ?_|refine Q6h ?_|refine Be Q9T ?_|with_reducible refine Bc (cMade _ _ _ (xR (Nat.sub_le _ _) hu)) ?_|refine Q5d ?_|fail)
 all_goals rfl):Z:=h
theorem Q1j(h:Z:=by
 have hv16:=xC hv qbr;have hu16:=xC hu qbr;refine Q0Q ?_;repeat' (refine Bb ?_;first|refine Q55 ?_|refine Q6h ?_|refine Bf Q9X ?_|with_reducible refine Bc (cMade _ _ _ (xR (Nat.sub_le _ _) hv)) ?_|refine Q5d ?_|fail)
 all_goals rfl):Z:=h
theorem Q1n(h:Z:=by
 refine Q3y ?_;repeat' (refine Bb ?_;first|refine Q5R ?_|refine Q5A ?_|fail)
 all_goals rfl):Z:=h
theorem Q1q(h:Z:=by
 have hv16:=xC hv qbr;have hu16:=xC hu qbr;refine Q37 ?_;repeat' (refine Bb ?_;first|refine Q55 ?_|refine Q5b ?_|fail)
 all_goals rfl):Z:=h
theorem Q1t(h:Z:=by
 repeat' (refine Bb ?_;first|refine Q55 ?_|with_reducible refine Bp (fun hb=>?_) (fun hb=>?_)|fail)
 all_goals
  refine jfk ?_
  simp only[xh,xk,xJ,false_iff,true_iff,iff_true,iff_false,reduceCtorEq,yq,xK,yr,yb] at *
  try simp only[qax,jhm,jed] at *
  omega):Z:=h
theorem Q1w(h:Z:=by
 have hv16:=xC hv qbr;have hu16:=xC hu qbr;refine Q0Q ?_;repeat' (refine Bb ?_;first|refine Q55 ?_|refine Bc (jni _ _ _ _ _ _ _ (qcu Q8I) (qcu Q8I)) ?_|refine Be (by rw[qy7 _ _ (xC hs qbr)];decide) ?_|with_reducible refine Bc (cMade _ _ _ hs) ?_|refine Q5e ?_|fail)
 all_goals rfl):Z:=h
theorem Q1P(h:Z:=by repeat' (refine Bb ?_;first|refine Q5M ?_|refine Ba ⟨⟨xm _,_,rfl,id,nlr _,lt2 (.plain rfl) (.plain rfl)⟩,xb⟩ ?_|refine Ba xb ?_|exact Bg|fail)):Z:=h
theorem Q1U(h:Z:=by repeat' (refine Bb ?_;first|refine Q55 ?_|refine Q5q ?_|refine Q5W ?_|exact Bg|fail)):Z:=h
theorem Q2k(h:Z:=by
 simp only[Sem.run_bind];rw[show(Op.equal 122 (.agg ⟨limL 16 (dg u)⟩) (.agg #[.int .u64 0,.int .u64 0,.int .u64 0,.int .u64 0,.int .u64 0,.int .u64 0,.int .u64 0,.int .u64 0,.int .u64 0,.int .u64 0,.int .u64 0,.int .u64 0,.int .u64 0,.int .u64 0,.int .u64 0,.int .u64 0])).run prog w=.ok (decide (u=0)) w from he w];rfl):Z:=h
theorem Q2M(h:Z:=by repeat (refine Bb ?_;first|exact Bg|with_reducible refine Ba rfl ?_|with_reducible refine Ba (ChunkLe.refl _) ?_ )):Z:=h
theorem Q2S(h:Z:=by
 refine Bb ?_;refine N.next (i+1) ⟨by omega,by omega⟩ ?_;exact Q0t):Z:=h
theorem Q2W(h:Z:=by
 clear hQ hQ1 hdq hq0 bQ
 go_wp2_with fail
 exact bodyPost_ret (v:=.tuple #[.int .u64 (Q:Nat),.int .u64 ((R:Int) / 2^s)]) (by simp[results,Tryz.results233]) rfl ⟨by rw[qc2,HR.out.1,HR.out.2],hB⟩):Z:=h
theorem Q37(k:Y)(h:Wr Y->Z:=by
 intro kQ;refine qac (G:=tys) w tysOK mixed func247 Q8I Q8K Q8J ?_;exact kQ.o):Z:=h ⟨k⟩
theorem Q3g(h:Z:=by repeat (refine Bb ?_;first|exact Bg|with_reducible (first|refine Ba rfl ?_|refine Ba (ChunkLe.refl _) ?_)|refine Ba (qa2 Q9t) ?_)):Z:=h
theorem Q3u(h:Z:=by
 clear hq2
 go_wp2_with fail
 go_roundw
 case rel=>exact⟨by first|trivial|rfl,q',r',rfl,rfl,by omega,HG2⟩
 case measure=>have:=HQ.out;simp[intOf];omega):Z:=h
theorem Q3w(k:Y)(h:Wr Y->Z:=by
 intro kQ;refine qac (G:=tys) w tysOK mixed func20 Q8I Q8L Q8U ?_;exact kQ.o):Z:=h ⟨k⟩
theorem Q3x(k:Y)(h:Wr Y->Z:=by
 intro kQ;refine qac (G:=tys) w tysOK mixed func21 Q8I Q8L Q8U ?_;exact kQ.o):Z:=h ⟨k⟩
theorem Q3y(k:Y)(h:Wr Y->Z:=by
 intro kQ;refine qac (G:=tys) w tysOK mixed func14 Q8I Q8L Q8U ?_;exact kQ.o):Z:=h ⟨k⟩
theorem Q4A(k:Y)(h:Wr Y->Z:=by
 intro kQ;refine Bb ?_;refine Bm (i+j) 1 Q9C Q8G ?_;refine Bb ?_;exact kQ.o):Z:=h ⟨k⟩
theorem Q4J(k:Y)(h:Wr Y->Z:=by
 intro kQ;refine Bb ?_;refine Bc (qys _ _ _ _ Q8G Q8G Q8G Q8G Q8G Q8G) ?_;exact kQ.o):Z:=h ⟨k⟩
theorem Q55(k:Y)(h:Wr Y->Z:=by intro kQ;(first|with_reducible (first|refine Ba Q8H ?_|refine Ba (qab _ _ _) ?_|refine Ba (qaa _ _) ?_|refine Bk ?_|refine Ba rfl ?_|refine Ba ⟨by kernel_rfl,by kernel_rfl⟩ ?_|refine Bj ?_|refine Bh ?_|refine Bi ?_)|fail);exact kQ.o):Z:=h ⟨k⟩
theorem Q5d(k:Y)(h:Wr Y->Z:=by intro kQ;(first|refine Be Q8H ?_|fail);exact kQ.o):Z:=h ⟨k⟩
theorem Q5e(k:Y)(h:Wr Y->Z:=by intro kQ;(first|refine Bf Q8H ?_|fail);exact kQ.o):Z:=h ⟨k⟩
theorem Q5q(k:Y)(h:Wr Y->Z:=by intro kQ;(first|refine Ba (.plain Q8I) ?_|fail);exact kQ.o):Z:=h ⟨k⟩
theorem Q5v(k:Y)(h:Wr Y->Z:=by intro kQ;(first|with_reducible (first|refine Ba (qab _ _ _) ?_|refine Ba (qaa _ _) ?_|refine Bk ?_|refine Ba rfl ?_|refine Ba ⟨by kernel_rfl,by kernel_rfl⟩ ?_|refine Bj ?_|refine Bh ?_|refine Bi ?_)|fail);exact kQ.o):Z:=h ⟨k⟩
theorem Q5A(k:Y)(h:Wr Y->Z:=by intro kQ;(first|refine Be (by rw[xi Q92];rfl) ?_|refine Bf (by rw[xf Q92];rfl) ?_|fail);exact kQ.o):Z:=h ⟨k⟩
theorem Q5G(k:Y)(h:Wr Y->Z:=by intro kQ;(first|refine Ba ⟨⟨_,rfl,id,nlr _,Q8W⟩,xb⟩ ?_|refine Ba xb ?_|fail);exact kQ.o):Z:=h ⟨k⟩
theorem Q5M(k:Y)(h:Wr Y->Z:=by intro kQ;(first|with_reducible (first|refine Ba Q8H ?_|refine Ba (qab _ _ _) ?_|refine Ba (qaa _ _) ?_|refine Bk ?_|refine Ba rfl ?_|refine Ba ⟨by kernel_rfl,by kernel_rfl⟩ ?_|refine Bj ?_|refine Bh ?_|refine Bi ?_|refine B8 ?_|refine N.max2 ?_)|refine Ba (.one (.ptr Q8I)) ?_|fail);exact kQ.o):Z:=h ⟨k⟩
theorem Q5R(k:Y)(h:Wr Y->Z:=by intro kQ;(first|with_reducible (first|refine Ba Q8H ?_|refine Ba (qab _ _ _) ?_|refine Ba (qaa _ _) ?_|refine Bk ?_|refine Ba rfl ?_|refine Ba ⟨by kernel_rfl,by kernel_rfl⟩ ?_|refine Bj ?_|refine Bh ?_|refine Bi ?_|refine Bc (qgo _ _ _) ?_|refine Bc (jqe _ _) ?_)|fail);exact kQ.o):Z:=h ⟨k⟩
theorem Q5T(k:Y)(h:Wr Y->Z:=by intro kQ;(first|refine Bc (qjj _ _ _ hv16 hx0 hx1) ?_|refine Bc (jni _ _ _ _ _ _ _ (qbs Q8I) (qbs Q8I)) ?_|refine Bc (quj _ _ _ _ Q8I hsum) ?_|refine Bc (jhk _ _ _ _ _ _ _ (qbs Q8I) (qbs Q8I) hy16 hx16) ?_|with_reducible refine Bc (cMade _ _ _ (htop _ hx1)) ?_|fail);exact kQ.o):Z:=h ⟨k⟩
theorem Q5V(k:Y)(h:Wr Y->Z:=by intro kQ;(first|with_reducible (first|refine Ba Q8H ?_|refine Ba (qab _ _ _) ?_|refine Ba (qaa _ _) ?_|refine Bk ?_|refine Ba rfl ?_|refine Ba ⟨by kernel_rfl,by kernel_rfl⟩ ?_|refine Bj ?_|refine Bh ?_|refine Bi ?_|refine B6 _ (qfz _ _ _ _ hv16 false rfl) ?_)|fail);exact kQ.o):Z:=h ⟨k⟩
theorem Q5W(k:Y)(h:Wr Y->Z:=by intro kQ;(first|refine Ba ⟨⟨_,rfl,id,nlr _,lt2 (.plain rfl) (.plain rfl)⟩,xb⟩ ?_|refine Ba xb ?_|fail);exact kQ.o):Z:=h ⟨k⟩
theorem Q5Z(k:Y)(h:Wr Y->Z:=by intro kQ;(first|with_reducible (first|refine Ba Q8H ?_|refine Ba (qab _ _ _) ?_|refine Ba (qaa _ _) ?_|refine Bk ?_|refine Ba rfl ?_|refine Ba ⟨by kernel_rfl,by kernel_rfl⟩ ?_|refine Bj ?_|refine Bh ?_|refine Bi ?_|refine Bc (jd6 _ _ _ _ _ _) ?_)|fail);exact kQ.o):Z:=h ⟨k⟩
theorem Q61(k:Y)(h:Wr Y->Z:=by intro kQ;(first|refine Be (xf Q8G) ?_|fail);exact kQ.o):Z:=h ⟨k⟩
theorem Q6h(k:Y)(h:Wr Y->Z:=by intro kQ;(first|refine Bc (jhk _ _ _ _ _ _ _ (qcu Q8I) (qcu Q8I) hv16 hu16) ?_|refine Bc (jnl _ _ _ _ _ _ _ _ _ _ _ Q8I Q8I Q8G) ?_|fail);exact kQ.o):Z:=h ⟨k⟩
theorem Q6n(k:Y)(h:Wr Y->Z:=by intro kQ;(first|refine Bc (jd6 x' y' a' b' d' _) ?_|refine Bc (qd1 x' y' a' b' d' _) ?_|refine Be Qa5 ?_|fail);exact kQ.o):Z:=h ⟨k⟩
theorem Q6W(h:Z:=by first|exact ⟨.ptr rfl,.ptr rfl,xb⟩|fail):Z:=h
theorem Q76(h:Z:=by first|exact ⟨fun _=>⟨rfl,nlr _⟩,nlr _,re7⟩|fail):Z:=h
theorem Q77(h:Z:=by first|exact ⟨fun _=>⟨rfl,nlr _⟩,nlr _,re2⟩|fail):Z:=h
theorem Q7k(h:Z:=by first|exact ⟨.ptr rfl,.plain rfl,.plain rfl,.plain rfl,xb⟩|fail):Z:=h
theorem Q8L(h:Z:=by first|rfl|(simp only[yt,List.all_nil,qad];rfl)):Z:=h
theorem Q8U(h:Z:=by first|rfl|exact qaj _|(simp only[qan,yt,List.all_nil,qad];rfl)):Z:=h
theorem Q8W(h:Z:=by first|(refine lt7 ?_ ?_ ?_ ?_ ?_ ?_ ?_<;>exact .plain rfl)|fail):Z:=h
theorem Q90(h:Z:=by first|rfl|exact qaj _):Z:=h
theorem Q92(h:Z:=by assumption):Z:=h
theorem Q98(h:Z:=by simp[qad]):Z:=h
theorem Q9q(h:Z:=by simp only[xh,xk] at *;omega):Z:=h
theorem Q9t(h:Z:=by rw[IntWalk.i64_in _ Q8G];rfl):Z:=h
theorem Q9C(h:Z:=by rw[IntWalk.i64_in _ Q8G];omega):Z:=h
theorem Q9D(h:Z:=by rw[Bool.true_and];exact decide_eq_decide.2 Q8G):Z:=h
theorem Q9H(h:Z:=by have:=HE.out.1;show v<y1*4294967296+y0;omega):Z:=h
theorem Q9K(h:Z:=by rw[Bool.false_and,xf Q8G]):Z:=h
theorem Q9M(h:Z:=by simp only[Knuth.h];omega):Z:=h
theorem Q9O(h:Z:=by simp[qan,qad];rfl):Z:=h
theorem Q9T(h:Z:=by rw[xk];unfold cm;split<;>(try split)<;>omega):Z:=h
theorem Q9X(h:Z:=by rw[xh];unfold cm;split<;>(try split)<;>omega):Z:=h
theorem Q9Y(h:Z:=by simp[qan,qae]):Z:=h
theorem Qa5(h:Z:=by rw[xi hm];rfl):Z:=h
theorem Qa7(h:Z:=by have:=jmm;omega):Z:=h
end
end Go.Proofs

namespace Go.Proofs.YtfkngpmgcimdbaaGreat
open Go.RowKit
def d64q (hi lo y:Nat):Nat:=(hi*18446744073709551616+lo) / y
def d64r (hi lo y:Nat):Nat:=(hi*18446744073709551616+lo)%y
theorem q5t (y:Nat) (hy:y<18446744073709551616) (w:World):Calls prog 234 #[.int .u64 y] w fun e w'=>e=.returned (xc (64-(lb y:Int)))/\w=w':=
 (Tryz.bits_LeadingZeros64 y w Q8G Q8G).mono fun e w' h=>⟨h.1,h.2.symm⟩
theorem qv6 (y:Nat) (h0:0<y) (hy:y<18446744073709551616):∃ s:Nat,s<64/\(64:Int)-(lb y:Int)=(s:Int)/\9223372036854775808<=y*2^s/\y*2^s<18446744073709551616:=by
 obtain⟨b1,b2⟩:=qdu 64 y hy;obtain⟨b3,b4⟩:=b2 Q8G;have e:Lib.bitLenAux 64 y=lb y:=rfl;rw[e] at b1 b3 b4;have hl:=jkc y hy;refine⟨64-lb y,by omega,by omega,?_,?_⟩
 ·have:2^(lb y-1)*2^(64-lb y)=9223372036854775808:=by
   rw[<-yc,show lb y-1+(64-lb y)=63 from by omega]
  rw[<-this];exact xX _ b3
 ·have:2^lb y*2^(64-lb y)=18446744073709551616:=by
   rw[<-yc,show lb y+(64-lb y)=64 from by omega]
  rw[<-this];exact zu b1 (x8 Q8H)
theorem qyz (x:Nat) (hx:x<18446744073709551616):bits .and .u64 (x:Int) 4294967295=((x%4294967296:Nat):Int):=by
 have:=(bits_nat .u64 64 Q8H (fun n h0 h1=>by rw[xq];omega) x 4294967295 hx Q8H).1;refine this.trans ?_;rw[show(4294967295:Nat)=2^32-1 from rfl,Nat.and_two_pow_sub_one_eq_mod]
theorem q25 (hi lo s:Nat) (hs:s<64) (h1:hi*2^s<18446744073709551616) (hlo:lo<18446744073709551616) :
  bits .or .u64 (IntKind.u64.wrap ((hi:Int)*2^s)) ((lo:Int) / 2^(64-s))=((hi*2^s+lo / 2^(64-s):Nat):Int):=by
 by_cases h0:0<s
 ·rw[jkd hi lo s h0 hs hlo,xP h1]
 ·obtain rfl:s=0:=by omega
  rw[qgm,qc2,qqp _ _ (xv _ Q8H) (xR (yA _ _) hlo),xP h1];rw[show lo / 2^(64-0)=0 from xW hlo,Nat.or_zero,yu]
theorem quf (hi lo y:Nat) (h0:0<hi) (h1:hi<y) (hlo:lo<18446744073709551616) (hy:y<18446744073709551616) (w:World) :
  xa 233 #[.int .u64 hi,.int .u64 lo,.int .u64 y] w (.tuple #[.int .u64 (d64q hi lo y:Nat),.int .u64 (d64r hi lo y:Nat)]):=by
 have hB:Below w.heap.size w w:=Below.refl _ _
 have g1:((y:Int)==0)=false:=by simp;omega
 have g2:¬ (y:Int)<=hi:=by omega
 have g3:((hi:Int)==0)=false:=by simp;omega
 obtain⟨s,hs,hs',hY1,hY2⟩:=qv6 y Q8G hy
 have hp:0<2^s:=x8 Q8H
 have hhi:hi*2^s<18446744073709551616:=xC (zu h1 hp) hY2
 have hW:=Knuth.words hi lo s hs
 have hbk:=Knuth.back (hi*18446744073709551616+lo) y s
 have hN:hi*18446744073709551616+lo<y*18446744073709551616:=by omega
 have hN2:(hi*18446744073709551616+lo)*2^s<y*2^s*18446744073709551616:=by
  rw[zq];exact zu hN hp
 have f1:IntKind.u64.wrap ((y:Int)*2^s)=((y*2^s:Nat):Int):=by rw[qgm,xP hY2]
 have f4:=q25 hi lo s hs hhi hlo
 have f5:=qgm lo s
 have hl64:lo*2^s%18446744073709551616<18446744073709551616:=xv _ Q8H
 have hlo2:lo / 2^(64-s)<=lo:=yA _ _
 rw[hW] at hbk hN2
 generalize hYY:y*2^s=Y at *
 generalize hu:hi*2^s+lo / 2^(64-s)=u at *
 generalize hl:lo*2^s%18446744073709551616=l at *
 have huY:u<Y:=by omega
 clear hW hN hN2 hYY hu hl hhi hp hlo2
 have f2:(Y:Int) / 4294967296=((Y / 4294967296:Nat):Int):=rfl
 have f3:=qyz Y hY2
 have f6:(l:Int) / 4294967296=((l / 4294967296:Nat):Int):=rfl
 have f7:=qyz l hl64
 have eY:=xE Y 4294967296
 have el:=xE l 4294967296
 have y0h:=xv Y (show 0<4294967296 by decide)
 have d0h:=xv l (show 0<4294967296 by decide)
 have y1a:2147483648<=Y / 4294967296:=by omega
 have y1b:Y / 4294967296<4294967296:=by omega
 have d1h:l / 4294967296<4294967296:=by omega
 generalize Y / 4294967296=y1 at *
 generalize Y%4294967296=y0 at *
 generalize l / 4294967296=d1 at *
 generalize l%4294967296=d0 at *
 have HE:=Lib.hid (show Y=y1*4294967296+y0/\l=d1*4294967296+d0 from⟨by omega,by omega⟩)
 clear eY el
 have G:=Knuth.first (u:=u) (d:=d1) y1a y1b y0h d1h (by have:=HE.out.1;show u<y1*4294967296+y0;omega)
 have hq1:=G.le
 have hq2:=G.sum
 have hr1:=xv u (show 0<y1 by omega)
 have f8:(u:Int).tdiv y1=((u / y1:Nat):Int):=rfl
 have f8':(u:Int) / y1=((u / y1:Nat):Int):=rfl
 generalize u / y1=q at *
 generalize u%y1=r at *
 have hqy:((q*y1:Nat):Int)=(q:Int)*(y1:Int):=x6 _ _
 have f9:IntKind.u64.wrap ((q:Int)*(y1:Int))=((q*y1:Nat):Int):=by rw[xq,<-hqy];omega
 have f10:IntKind.u64.wrap ((u:Int)-((q*y1:Nat):Int))=(r:Int):=by rw[xq];omega
 have f11:IntKind.u64.wrap (q:Int)=(q:Int):=by rw[xq];simp only[Knuth.h] at hq1;omega
 generalize hqq:q*y1=qy at *
 clear hqy hqq hq2
 go_enter func233,Tryz.ntmps233
 go_wp2_with fail
 refine(q5t y hy _).mono ?_
 rintro e w' ⟨rfl,rfl⟩
 rw[hs']
 clear hs'
 go_wp2_with fail
 clear f1 f2 f3 f4 f5 f6 f7 f8 f8' f9 f10 f11 g1 g2 g3
 have hr2:r<4294967296:=by omega
 have HG:=Lib.hid G
 clear G hq1 hr1
 go_loopw [15,16] (fun a b wr=>wr=w/\∃ q r:Nat,a=.int .u64 q/\b=.int .u64 r/\r<4294967296/\Hid (Knuth.Guess y1 y0 u d1 q r)) (fun a b _=>(intOf a).toNat)
 case atStart=>exact⟨rfl,_,_,rfl,rfl,hr2,HG⟩
 case round=>
  clear HG hr2
  obtain⟨e0,q,r,rfl,rfl,hr2,HG⟩:=hrel
  have e0':=e0.symm
  clear e0
  subst e0'
  have hu':u<y1*Knuth.h+y0:=by have:=HE.out.1;show u<y1*4294967296+y0;omega
  have hq1:q<=4294967297:=HG.out.le
  obtain⟨m,hm⟩:∃ m:Nat,q*y0=m:=⟨_,rfl⟩
  have hm1:m<=4294967297*4294967295:=by rw[<-hm];exact yC hq1 Q8G
  have e1:IntKind.u64.wrap ((q:Int)*(y0:Int))=(m:Int):=by
   rw[<-x6,hm,xq];omega
  obtain⟨k0,hk0⟩:∃ k:Nat,4294967296*r=k:=⟨_,rfl⟩
  have e2:IntKind.u64.wrap (4294967296*(r:Int))=(k0:Int):=by rw[xq];omega
  obtain⟨k,hk⟩:∃ k:Nat,k0+d1=k:=⟨_,rfl⟩
  have e3:IntKind.u64.wrap ((k0:Int)+(d1:Int))=(k:Int):=by rw[xq];omega
  have hkk:Knuth.h*r+d1=k:=by simp only[Knuth.h];omega
  have hdn:Knuth.h<=q\/k<m->0<q/\Knuth.Guess y1 y0 u d1 (q-1) (r+y1):=fun ht=>Knuth.down d1h hu' HG.out (by rw[hkk,hm];exact ht)
  have hst:q<Knuth.h->m<=k->q=(u*Knuth.h+d1) / (y1*Knuth.h+y0):=fun h1 h2=>Knuth.stop d1h hu' HG.out h1 (by rw[hkk,hm];exact h2)
  obtain⟨r',hr'⟩:∃ r',r+y1=r':=⟨_,rfl⟩
  have e5:IntKind.u64.wrap ((r:Int)+(y1:Int))=(r':Int):=by rw[xq];omega
  have hr3:r'<18446744073709551616:=by omega
  rw[hr'] at hdn
  have HH:=Lib.hid hdn
  have HS:=Lib.hid hst
  have hq64:(q:Int)<18446744073709551616:=by omega
  clear hm hk0 hk hkk hdn hst hm1 hr'
  by_cases hA:4294967296<=q
  ·have HT:Hid (Knuth.h<=q\/k<m):=.inl hA;have t1:decide ((q:Int)>=4294967296)=true:=xi Q8G;have t1':(4294967296:Int)<=(q:Int):=by omega
   clear hA;exact Q14
  ·by_cases hB:k<m
   ·have HT:Hid (Knuth.h<=q\/k<m):=.inr hB;have t1:¬ (4294967296:Int)<=(q:Int):=by omega
    have t2:(k:Int)<(m:Int):=by omega
    clear hA hB;exact Q14
   ·have HF:=Lib.hid (HS.out Q9M Q8G);have t1:¬ (4294967296:Int)<=(q:Int):=by omega
    have t2:¬ (k:Int)<(m:Int):=by omega
    clear hA hB hq1;have hdq1:(u*4294967296+d1) / Y=q:=by rw[HE.out.1];exact HF.out.symm
    have hq1h:q<4294967296:=by rw[<-hdq1,HE.out.1];exact Knuth.digit_lt (y1:=y1) (y0:=y0) d1h hu'
    have HD1:=Lib.hid hdq1;have aE:=xE (u*4294967296+d1) Y;have aQ:(u*4294967296+d1) / Y=q:=hdq1;rw[aQ] at aE;have aL:=xv (u*4294967296+d1) (show 0<Y by omega);obtain⟨v,vE⟩:∃ z,(u*4294967296+d1)%Y=z:=⟨_,rfl⟩;rw[vE] at aE aL;obtain⟨aC,aCE⟩:∃ c,q*Y%18446744073709551616=c:=⟨_,rfl⟩;have a3:IntKind.u64.wrap ((q:Int)*(Y:Int))=(aC:Int):=by rw[<-x6,xq];omega
    rw[xl Y] at aE;obtain⟨aA,aAE⟩:∃ c,u*4294967296%18446744073709551616=c:=⟨_,rfl⟩;have a1:IntKind.u64.wrap ((u:Int)*4294967296)=(aA:Int):=by rw[xq];omega
    obtain⟨aB,aBE⟩:∃ c,(aA+d1)%18446744073709551616=c:=⟨_,rfl⟩;have a2:IntKind.u64.wrap ((aA:Int)+(d1:Int))=(aB:Int):=by rw[xq];omega
    have a4:IntKind.u64.wrap ((aB:Int)-(aC:Int))=(v:Int):=by
     rw[xq];generalize q*Y=P at *;omega
    have Hv:=Lib.hid vE;clear aE aCE aAE aBE vE;have hvY:v<Y:=aL;clear aQ hdq1 aL HF;obtain⟨qa,rfl⟩:∃ c,c=q:=⟨_,rfl⟩;exact Q00
open Go Go.RowKit Sx
theorem qak (neg over:Bool) (v:Nat):qan (.agg ⟨wiL neg over v⟩)=true:=qag neg over v
theorem cMade (neg:Bool) (v:Nat) (h:Hp) (hv:v<Top):qaf prog 154 [.bool neg,.agg ⟨limL 16 (dg v)⟩] h (.agg ⟨wiL (neg&&decide (v≠0)) false v⟩) [] []:=
 qai (by simp[qae];rfl) (qak _ _ _) (call154 _) fun w=>by
  have:=q23 neg v hv w;rw[jli] at this;exact this
theorem cOf (n:Int) (h:Hp) (h0 : -9223372036854775808<=n) (h1:n<9223372036854775808):qaf prog 98 [xc n] h (.agg ⟨wiL (decide (n<0)) false n.natAbs⟩) [] []:=
 qai rfl (qak _ _ _) (call98 _) fun w=>by
  have:=q7s n h0 h1 w;unfold zi at this;rw[jli] at this;exact this
variable {o:Bool} {n m:Nat}
theorem qms {p:Nat} {f:Nat->Nat} (hp:p+m<=n):Reads ⟨o,n,[(0,n,.agg ⟨limL n f⟩)]⟩ p true m (.agg ⟨limL m (fun k=>f (p+k))⟩):=by
 refine⟨hp,_,rfl,qcy _ _,fun k hk=>?_⟩;refine Q3j ?_;simp only[cellIn];rw[qfx hk,show p+k-0=p+k from rfl,qfx Q8G]
theorem qmt {ps:Pz} {v:Value}:Writes ⟨true,n,ps⟩ 0 n v ⟨true,n,[(0,n,v)]⟩:=by
 refine⟨rfl,by show 0+n<=n;omega,rfl,fun k hk=>?_⟩;have hk:k<n:=hk;show qa3 _ _=_;rw[qam,if_pos Q8G,if_pos Q8G]
def mT (v u i:Nat):Nat:=v%Bs^i*u
def mX (v u i j:Nat):Nat:=mT v u i+Bs^i*dg v i*(u%Bs^j)
def mC (v u i j:Nat):Nat:=mX v u i j / Bs^(i+j)-mT v u i / Bs^(i+j)
def mA (v u i j k:Nat):Nat:=if k<i+j then dg (mX v u i j) k else dg (mT v u i) k
theorem qy0 (v u i:Nat):mX v u i 0=mT v u i:=by simp[mX,Nat.mod_one]
theorem qy1 (v u i:Nat):mC v u i 0=0:=by simp[mC,qy0]
theorem q7u (v u i k:Nat):mA v u i 0 k=dg (mT v u i) k:=by unfold mA;rw[qy0];split<;>rfl
theorem q7v (v u:Nat):mT v u 0=0:=by simp[mT,Nat.mod_one]
theorem qy2 (v u i j:Nat):mX v u i (j+1)=mX v u i j+Bs^(i+j)*(dg v i*dg u j):=by
 unfold mX;rw[qkd,yU,<-yf,yc];congr 1;simp only[x7,Nat.mul_left_comm]
theorem jnf (v u i j:Nat):mT v u i<=mX v u i j:=Nat.le_add_right _ _
theorem q5u (v u i j:Nat):mX v u i j / Bs^(i+j)=mT v u i / Bs^(i+j)+mC v u i j:=by
 unfold mC;have:=Nat.div_le_div_right (c:=Bs^(i+j)) (jnf v u i j);omega
theorem qy3 (v u i j:Nat):mX v u i (j+1) / Bs^(i+j)=mT v u i / Bs^(i+j)+mC v u i j+dg v i*dg u j:=by
 rw[qy2,Nat.add_mul_div_left _ _ (qbh _),q5u]
theorem qy4 (v u i j:Nat):mC v u i (j+1)=(dg v i*dg u j+dg (mT v u i) (i+j)+mC v u i j) / 18446744073709551616:=by
 have h:=qy3 v u i j;have hs:=qct (mT v u i) (i+j);have h2:mX v u i (j+1) / Bs^(i+(j+1))=mX v u i (j+1) / Bs^(i+j) / Bs:=by
  rw[yw,show i+(j+1)=(i+j)+1 from rfl,yv]
 generalize hc:mC v u i j=c at *;show mX v u i (j+1) / Bs^(i+(j+1))-mT v u i / Bs^(i+(j+1))=_;rw[h2,h,hs,show i+(j+1)=(i+j)+1 from rfl];rw[show mT v u i / Bs^(i+j+1)*Bs+dg (mT v u i) (i+j)+c+dg v i*dg u j=Bs*(mT v u i / Bs^(i+j+1))+(dg v i*dg u j+dg (mT v u i) (i+j)+c) from by rw[xl];omega];rw[yP qbl,zB]
theorem ja0 (v u i j:Nat):dg (mX v u i (j+1)) (i+j)=(dg v i*dg u j+dg (mT v u i) (i+j)+mC v u i j)%18446744073709551616:=by
 have h:=qy3 v u i j;have hs:=qct (mT v u i) (i+j);show mX v u i (j+1) / Bs^(i+j)%Bs=_;rw[h,hs];rw[show mT v u i / Bs^(i+j+1)*Bs+dg (mT v u i) (i+j)+mC v u i j+dg v i*dg u j=Bs*(mT v u i / Bs^(i+j+1))+(dg v i*dg u j+dg (mT v u i) (i+j)+mC v u i j) from by rw[xl];omega];rw[zd]
theorem qug {a b t c:Nat} (ha:a<18446744073709551616) (hb:b<18446744073709551616) (ht:t<18446744073709551616) (hc:c<18446744073709551616):(a*b+t+c) / 18446744073709551616<18446744073709551616:=by
 have:a*b<=18446744073709551615*18446744073709551615:=yC Q8G Q8G;omega
theorem jke (v u i:Nat):∀ j,mC v u i j<18446744073709551616
 | 0=>by rw[qy1];decide
 | j+1=>by rw[qy4];exact qug (jd4 _ _) (jd4 _ _) (jd4 _ _) (jke v u i j)
theorem ja1 (x y p k:Nat) (h:k<p):dg (x+Bs^p*y) k=dg x k:=by
 rw[<-qd0 (x+Bs^p*y) p k h,Nat.add_mul_mod_self_left,qd0 x p k h]
theorem q7w (v u i j k:Nat) (h:k≠i+j):mA v u i (j+1) k=mA v u i j k:=by
 unfold mA;by_cases hk:k<i+j
 ·rw[if_pos hk,if_pos Q8G,qy2,ja1 _ _ _ _ hk]
 ·rw[if_neg hk,if_neg Q8G]
theorem jng (v u i j:Nat):mA v u i (j+1) (i+j)=(dg v i*dg u j+dg (mT v u i) (i+j)+mC v u i j)%18446744073709551616:=by
 unfold mA;rw[if_pos Q8G,ja0]
theorem ja2 (v u i j:Nat):mA v u i j (i+j)=dg (mT v u i) (i+j):=by unfold mA;rw[if_neg Q8G]
theorem ja3 (v u i n:Nat) (hu:u<Bs^n):mX v u i n=mT v u (i+1):=by
 unfold mX mT;rw[xP hu,qkd,xA]
theorem jkf (v u i n:Nat) (hu:u<Bs^n):mT v u i<Bs^(i+n):=by
 unfold mT;rw[yc];have h1:=xv v (qbh i);exact zg h1 hu
theorem qy5 (v u i n k:Nat) (hu:u<Bs^n):dg (mT v u (i+1)) k=if k<i+n then mA v u i n k else if k=i+n then mC v u i n else dg (mT v u i) k:=by
 have hx:=ja3 v u i n hu;have h0:mT v u i / Bs^(i+n)=0:=xW (jkf v u i n hu);by_cases h1:k<i+n
 ·rw[if_pos h1];unfold mA;rw[if_pos h1,hx]
 ·rw[if_neg h1];by_cases h2:k=i+n
  ·rw[if_pos h2];subst h2;have h3:=q5u v u i n;rw[h0,xn,hx] at h3;show mT v u (i+1) / Bs^(i+n)%Bs=_;rw[h3,xP (jke v u i n)]
  ·rw[if_neg h2];have h4:i+n<=k:=by omega
   have h5:Bs^(i+n)<=Bs^k:=xY qbl h4;have h6:Bs^(i+1+n)<=Bs^k:=xY qbl Q8G;rw[qbt _ _ (xj (jkf v u i n hu) h5),qbt _ _ (xj (jkf v u (i+1) n hu) h6)]
theorem q7x (v u i n k:Nat) (h:i+n<=k):mA v u i n k=dg (mT v u i) k:=by unfold mA;rw[if_neg Q8G]
theorem ja4 (v u m:Nat) (hv:v<Bs^m):mT v u m=v*u:=by unfold mT;rw[xP hv]
theorem q7y (ab t c:Nat):(((((ab%18446744073709551616:Nat):Int)+(t:Int)+0)%18446744073709551616)+(c:Int)+0)%18446744073709551616=(((ab+t+c)%18446744073709551616:Nat):Int):=by omega
theorem q26 (ab t c:Nat) (h:(ab+t+c) / 18446744073709551616<18446744073709551616):IntKind.u64.wrap (IntKind.u64.wrap (((ab / 18446744073709551616:Nat):Int)+(((ab%18446744073709551616:Nat):Int)+(t:Int)+0) / 18446744073709551616)+((((ab%18446744073709551616:Nat):Int)+(t:Int)+0)%18446744073709551616+(c:Int)+0) / 18446744073709551616)=(((ab+t+c) / 18446744073709551616:Nat):Int):=by
 rw[xq,xq];omega
theorem qbm {a b:Int} (h:a=b):Value.int .u64 a=.int .u64 b:=by rw[h]
theorem qa2 {a b:Int} (h:a=b):xc a=xc b:=by rw[h]
theorem jnh (n1 n2:Bool) (v u:Nat) (hv:v<Bs^16) (hu:u<Bs^16) (hvu:v*u<Top) (w:World) :
  xa 132 #[.agg ⟨wiL n1 false v⟩,.agg ⟨wiL n2 false u⟩] w (.agg ⟨wiL ((n1 != n2)&&decide (v*u≠0)) false (v*u)⟩):=by
 have hn1:=jg2 v
 have hn2:=jg2 u
 have hvm:v<Bs^nd v:=qgl v 16 hv
 have hun:u<Bs^nd u:=qgl u 16 hu
 refine qac (G:=tys) w tysOK mixed func132 Q8I (by simp[qag]) (by exact qag _ _ _) ?_
 repeat (refine Bb ?_;first|with_reducible (first|refine Ba (qab _ _ _) ?_|refine Ba (qaa _ _) ?_|refine Bk ?_|refine Ba rfl ?_|refine Ba ⟨by kernel_rfl,by kernel_rfl⟩ ?_|refine Bj ?_|refine Bh ?_|refine Bi ?_)|refine Bc (q5r _ _ _ _ (qcu Q8I)) ?_)
 refine Bb ?_
 refine Bt (α:=Nat) (fun i=>i<=nd v) (fun i=>nd v-i) (fun i=>[(29,xc (i:Int))]) (fun i=>[(3,⟨true,32,[(0,32,.agg ⟨limL 32 (dg (mT v u i))⟩)]⟩)]) 0 (xm _) ?_ ?_
 ·repeat (refine Bb ?_;first|exact Bg|with_reducible (first|refine Ba rfl ?_|refine Ba (ChunkLe.refl _) ?_)|refine Ba (ChunkLe.of (by rw[q7v,qcl (g:=fun _=>0) (fun j _=>qgj j)];rfl)) ?_)
 ·intro i hi;by_cases hlt:i<nd v
  ·refine Bb ?_;refine Bf (by simpa using hlt) ?_;refine Bb ?_;refine Bt (α:=Nat) (fun j=>j<=nd u) (fun j=>nd u-j) (fun j=>[(33,xc (j:Int)),(9,.int .u64 ((mC v u i j:Nat):Int))]) (fun j=>[(3,⟨true,32,[(0,32,.agg ⟨limL 32 (mA v u i j)⟩)]⟩)]) 0 (xm _) ?_ ?_
   ·repeat (refine Bb ?_;first|exact Bg|with_reducible (first|refine Ba rfl ?_|refine Ba (ChunkLe.refl _) ?_)|refine Ba (ChunkLe.of (by rw[qcl (f:=mA v u i 0) (g:=dg (mT v u i)) (fun k _=>q7u v u i k)])) ?_|refine Ba (by rw[qy1];rfl) ?_)
   ·intro j hj;have da:=jd4 v i;have db:=jd4 u j;have dt:=jd4 (mT v u i) (i+j);have dc:=jke v u i j;by_cases hlt2:j<nd u
    ·have hab:dg v i*dg u j<=18446744073709551615*18446744073709551615:=yC Q8G Q8G;refine Bb ?_;refine Bf (by simpa using hlt2) ?_;refine Bb ?_;refine Bj ?_;refine Bb ?_;refine Bm i 1 rfl Q8G ?_;refine Bb ?_;refine Bn _ (qn9 (p:=i) Q8G rfl) ?_;refine Bb ?_;refine Bm j 1 rfl Q8G ?_;refine Bb ?_;refine Bn _ (qn9 (p:=j) Q8G rfl) ?_;refine Bb ?_;refine Bc (qf8 (dg v i) (dg u j) _ da db) ?_;refine Bb ?_;refine Ba ⟨by kernel_rfl,by kernel_rfl⟩ ?_;refine Q4A ?_;refine Bn _ (qau (p:=i+j) Q8G rfl) ?_;rw[ja2];refine Q4J ?_;refine Q4J ?_;refine Q4A ?_;refine N.store ⟨true,32,[(0,32,.agg ⟨limL 32 (mA v u i (j+1))⟩)]⟩ (qcd (p:=i+j) Q8G rfl (by rw[jng];exact q7y _ _ _) (fun k _ hk=>q7w v u i j k hk)) ?_;refine Bb ?_;refine N.next (j+1) ⟨by omega,by omega⟩ ?_
     repeat (refine Bb ?_;first|exact Bg|with_reducible (first|refine Ba rfl ?_|refine Ba (ChunkLe.refl _) ?_)|refine Ba (qa2 Q9t) ?_|refine Ba (qbm (by rw[qy4];exact q26 _ _ _ (qug da db dt dc))) ?_)
    ·refine Bb ?_;refine Be (by simpa using hlt2) ?_;obtain rfl:j=nd u:=by omega
     refine Bb ?_;refine Bm (i+nd u) 1 Q9C Q8G ?_;refine Bb ?_;refine N.store ⟨true,32,[(0,32,.agg ⟨limL 32 (dg (mT v u (i+1)))⟩)]⟩ (qcd (p:=i+nd u) Q8G rfl (by rw[qy5 v u i (nd u) _ hun,if_neg Q8G,if_pos rfl]) (fun k _ hk=>by
      rw[qy5 v u i (nd u) k hun];by_cases h:k<i+nd u
      ·rw[if_pos h]
      ·rw[if_neg h,if_neg hk,q7x _ _ _ _ _ Q8G])) ?_
     exact Q2S
  ·have hm:i=nd v:=by omega
   subst hm;refine Bb ?_;refine Be Q8R ?_;refine Bb ?_;rw[ja4 v u _ hvm];refine N.mk ⟨0,16,0,rfl,rfl,?_⟩;refine Bb ?_;refine N.mk ⟨0,16,0,⟨rfl,by decide⟩,rfl,?_⟩;refine Bb ?_;refine N.mk ⟨16,.agg ⟨limL 16 (dg (v*u))⟩,⟨true,16,[(0,16,.agg ⟨limL 16 (dg (v*u))⟩)]⟩,rfl,?_,qaa _ _,qmt,?_⟩
   ·have:=qms (o:=true) (n:=32) (m:=16) (p:=0) (f:=dg (v*u)) Q8G;simp only[xn] at this;exact this
   refine Bb ?_;refine Ba ⟨by kernel_rfl,by kernel_rfl⟩ ?_;refine Bb ?_;refine N.mk ⟨16,32,1,rfl,⟨rfl,by decide⟩,?_⟩;refine Bb ?_;refine Bt (α:=Nat) (fun j=>j<=16) (fun j=>16-j) (fun j=>[(86,xc (j:Int))]) (fun _=>[]) 0 Q8G ?_ ?_
   ·exact Q2M
   ·intro j hj;by_cases hlt3:j<16
    ·refine Bb ?_;refine Bf Q9j ?_;refine Bb ?_;refine Bm j 1 rfl hlt3 ?_;refine Bb ?_;refine Bn _ (qau (p:=16+j) Q8G rfl) ?_;refine Bb ?_;have hz:dg (v*u) (16+j)=0:=qbt _ _ (xj (xC hvu qbr) (xY qbl Q8G));rw[hz];refine Be rfl ?_;refine Bb ?_;refine N.next (j+1) ⟨by omega,by omega⟩ ?_;exact Q0t
    ·refine Bb ?_;refine Be Q9j ?_;repeat (refine Bb ?_;first|with_reducible (first|refine Ba (qab _ _ _) ?_|refine Ba (qaa _ _) ?_|refine Bk ?_|refine Ba rfl ?_|refine Ba ⟨by kernel_rfl,by kernel_rfl⟩ ?_|refine Bj ?_|refine Bh ?_|refine Bi ?_)|refine Bc (cMade _ _ _ hvu) ?_)
     rfl
open Go Go.RowKit Sx
abbrev wz (z:Int):Value:=.agg ⟨wiL (decide (z<0)) false z.natAbs⟩
theorem qad (z:Int):qap (wz z)=true:=qag _ _ _
theorem qaj (z:Int):qan (wz z)=true:=qag _ _ _
theorem q27 (a b:Int):((decide (a<0) != decide (b<0))&&decide (a.natAbs*b.natAbs≠0))=decide (a*b<0):=by
 by_cases h0:a=0
 ·subst h0;simp
 by_cases h1:b=0
 ·subst h1;simp
 have hne:a.natAbs*b.natAbs≠0:=Nat.mul_ne_zero Q8G Q8G;rw[xi hne,za];rcases Int.lt_or_gt_of_ne h0 with ha|ha<;>rcases Int.lt_or_gt_of_ne h1 with hb|hb
 ·have:=Int.mul_pos_of_neg_of_neg ha hb;rw[xi ha,xi hb,xf Q8G];rfl
 ·have:=Int.mul_neg_of_neg_of_pos ha hb;rw[xi ha,xf (by omega:¬ b<0),xi this];rfl
 ·have:=Int.mul_neg_of_pos_of_neg ha hb;rw[xf (by omega:¬ a<0),xi hb,xi this];rfl
 ·have:=Int.mul_pos ha hb;rw[xf (by omega:¬ a<0),xf (by omega:¬ b<0),xf Q8G];rfl
theorem jdu (a b:Int) (h:Hp) (ha:a.natAbs<Bs^16) (hb:b.natAbs<Bs^16) (hab:(a*b).natAbs<Top):qaf prog 132 [wz a,wz b] h (wz (a*b)) [] []:=
 qai Q98 (qaj _) (call132 _) fun w=>by
  have:=jnh (decide (a<0)) (decide (b<0)) a.natAbs b.natAbs ha hb (by rwa[<-zv]) w;rw[q27,<-zv] at this;exact this
theorem jev (n:Int) (h:Hp) (h0 : -9223372036854775808<=n) (h1:n<9223372036854775808):qaf prog 98 [xc n] h (wz n) [] []:=cOf n h h0 h1
theorem qjj (a b:Nat) (h:Hp) (ha:a<Bs^16) (hb0:0<b) (hb:b<18446744073709551616):qaf prog 215 [.agg ⟨limL 16 (dg a)⟩,.agg ⟨limL 16 (dg b)⟩] h (.tuple #[.agg ⟨limL 16 (dg (a / b))⟩,.agg ⟨limL 16 (dg (a%b))⟩]) [] []:=
 qai (by simp[qae]) Q9Y (call215 _) fun w=>qv5 a b ha hb0 hb (fun i w hi=>by
  have hs:=q20 a b i hb0;have hr:rm a b (i+1)<b:=xv _ hb0;have hd:=jd4 a i;have e1:rm a b (i+1)*18446744073709551616+dg a i=a / Bs^(i+1)%b*18446744073709551616+dg a i:=rfl;rcases yO (rm a b (i+1)) with h0|h0
  ·have:=que (dg a i) b hd hb0 hb w;rw[h0,Nat.zero_mul,xn] at e1;rw[<-e1] at hs;rw[hs.1,hs.2] at this;rw[h0];exact this
  ·have:=quf (rm a b (i+1)) (dg a i) b h0 hr hd hb w;unfold d64q d64r at this;rw[e1,hs.1,hs.2] at this;exact this) w
theorem qbs {h:Hp} {i v:Nat} (hi:h[i]?=some (some ⟨o,16,[(0,16,.agg ⟨limL 16 (dg v)⟩)]⟩)):Has h i 0 v:=
 ⟨_,hi,nlr _,fun j hj=>by
  refine Q3j ?_;simp only[cellIn];rw[show 0+j-0=j from by omega];exact qfx hj⟩
theorem q28:limL 16 (dg 1)=[.int .u64 1,.int .u64 0,.int .u64 0,.int .u64 0,.int .u64 0,.int .u64 0,.int .u64 0,.int .u64 0,.int .u64 0,.int .u64 0,.int .u64 0,.int .u64 0,.int .u64 0,.int .u64 0,.int .u64 0,.int .u64 0]:=by
 rw[qcl (g:=fun j=>if j=0 then 1 else 0) (fun j _=>qhg 1 Q8H j)];rfl
theorem qsl {h:Hp} {i:Nat} (hi:h[i]?=some (some ⟨o,16,[(0,16,.agg ⟨[.int .u64 1,.int .u64 0,.int .u64 0,.int .u64 0,.int .u64 0,.int .u64 0,.int .u64 0,.int .u64 0,.int .u64 0,.int .u64 0,.int .u64 0,.int .u64 0,.int .u64 0,.int .u64 0,.int .u64 0,.int .u64 0]⟩)]⟩)):Has h i 0 1:=by
 rw[<-q28] at hi;exact qbs hi
theorem jni (i f v j g u:Nat) (h:Hp) (h1:Has h i f v) (h2:Has h j g u):qaf prog 153 [.pointer (some ⟨i,f,some 0⟩),.pointer (some ⟨j,g,some 0⟩)] h (.tuple #[.agg ⟨limL 16 (dg (v+u))⟩,.int .u64 (cry v u 16)]) [] [i,j]:=
 qgk [i,j] (by simp[qan,qae];rfl) (call153) fun ρ w hc=>q7p (ρ i).1 ((ρ i).2+f) v (ρ j).1 ((ρ j).2+g) u w (h1.digs Q8R hc) (h2.digs Q8R hc)
theorem jlj (i f v:Nat) (h:Hp) (h1:Has h i f v):qaf prog 186 [.pointer (some ⟨i,f,some 0⟩)] h (xc (bl v)) [] [i]:=
 qgk [i] rfl (call186) fun ρ w hc=>(qua (ρ i).1 ((ρ i).2+f) v w (h1.digs Q8R hc)).mono Q9d
theorem qv7:prog.eqGuardType prog.depth 122=false:=by kernel_rfl
theorem qfz (op:BinOp) (x y:Operand) (u:Nat) (hu:u<Bs^16) (neg:Bool) (hop:op=if neg then .neq else .eql):BinIs prog op 122 x y (.agg ⟨limL 16 (dg u)⟩) (.agg #[.int .u64 0,.int .u64 0,.int .u64 0,.int .u64 0,.int .u64 0,.int .u64 0,.int .u64 0,.int .u64 0,.int .u64 0,.int .u64 0,.int .u64 0,.int .u64 0,.int .u64 0,.int .u64 0,.int .u64 0,.int .u64 0]) (.bool (if neg then !decide (u=0) else decide (u=0))):=by
 have he:=qv4 u hu;refine⟨qae _ _,rfl,by cases neg<;>rfl,fun w=>?_⟩;have hg:∀ op,(eqGuard op 122 x y (.agg ⟨limL 16 (dg u)⟩) (.agg #[.int .u64 0,.int .u64 0,.int .u64 0,.int .u64 0,.int .u64 0,.int .u64 0,.int .u64 0,.int .u64 0,.int .u64 0,.int .u64 0,.int .u64 0,.int .u64 0,.int .u64 0,.int .u64 0,.int .u64 0,.int .u64 0])).run prog w=.ok () w:=fun op=>by
  cases op<;>simp[eqGuard,Sem.run_bind,run_program,qv7]
 subst hop;cases neg
 ·simp only[Sem.run_bind,hg,Result.andThen_ok,if_false,xJ];show(do pure (.bool (<-Op.equal 122 (.agg ⟨limL 16 (dg u)⟩) (.agg #[.int .u64 0,.int .u64 0,.int .u64 0,.int .u64 0,.int .u64 0,.int .u64 0,.int .u64 0,.int .u64 0,.int .u64 0,.int .u64 0,.int .u64 0,.int .u64 0,.int .u64 0,.int .u64 0,.int .u64 0,.int .u64 0]))):Sem Value).run prog w=_;exact Q2k
 ·simp only[Sem.run_bind,hg,Result.andThen_ok,if_true];show(do pure (.bool (!(<-Op.equal 122 (.agg ⟨limL 16 (dg u)⟩) (.agg #[.int .u64 0,.int .u64 0,.int .u64 0,.int .u64 0,.int .u64 0,.int .u64 0,.int .u64 0,.int .u64 0,.int .u64 0,.int .u64 0,.int .u64 0,.int .u64 0,.int .u64 0,.int .u64 0,.int .u64 0,.int .u64 0])))):Sem Value).run prog w=_;exact Q2k
theorem jmk (h:n<18446744073709551616):n<Bs^16:=xj h (Nat.le_self_pow Q8H Bs)
theorem jnj (z:Int) (hz:z.natAbs<Top) (w:World):xa 131 #[wz z] w (wz (-z)):=by
 refine qac (G:=tys) w tysOK mixed func131 Q8I Q8K Q8J ?_;repeat' (refine Bb ?_;first|with_reducible (first|refine Ba (qab _ _ _) ?_|refine Ba (qaa _ _) ?_|refine Bk ?_|refine Ba rfl ?_|refine Ba ⟨by kernel_rfl,by kernel_rfl⟩ ?_|refine Bj ?_|refine Bh ?_|refine Bi ?_|refine Bc (cMade _ _ _ hz) ?_)|fail)
 all_goals
  simp only[wz,Value.agg.injEq,Array.mk.injEq,yG]
  congr 1
  by_cases h:z<0
  ·rw[xi h,xf (by omega:¬ -z<0)];rfl
  ·by_cases h0:z=0
   ·subst h0;rfl
   ·rw[xf h,xi (by omega : -z<0),xi (by omega:z.natAbs≠0)];rfl
theorem jhv (z:Int) (h:Hp) (hz:z.natAbs<Top):qaf prog 131 [wz z] h (wz (-z)) [] []:=
 qai Q98 (qaj _) (call131 _) (jnj z hz)
open Go Go.RowKit Sx
theorem qhz (n o:Bool) (v:Nat):(wiL n o v).length=18:=by simp[wiL,qcy]
variable {ix:List (Nat×Nat)}
theorem wi_re {w:Bool} (n o:Bool) (v:Nat):((⟨false,18,[(0,18,.agg ⟨wiL n o v⟩)]⟩:Chunk).own=true->(⟨w,18,[(0,18,.agg ⟨wiL n o v⟩)]⟩:Chunk).own=true/\m<=(⟨w,18,[(0,18,.agg ⟨wiL n o v⟩)]⟩:Chunk).n)/\(⟨false,18,[(0,18,.agg ⟨wiL n o v⟩)]⟩:Chunk).n<=(⟨w,18,[(0,18,.agg ⟨wiL n o v⟩)]⟩:Chunk).n/\qbb ix ⟨w,18,[(0,18,.agg ⟨wiL n o v⟩)]⟩ ⟨false,18,[(0,18,.agg ⟨wiL n o v⟩)]⟩:=
 qij (qbz (qhz _ _ _) (qag _ _ _))
theorem q5v {w:Bool} (f:Nat->Nat):((⟨false,16,[(0,16,.agg ⟨limL 16 f⟩)]⟩:Chunk).own=true->(⟨w,16,[(0,16,.agg ⟨limL 16 f⟩)]⟩:Chunk).own=true/\m<=(⟨w,16,[(0,16,.agg ⟨limL 16 f⟩)]⟩:Chunk).n)/\(⟨false,16,[(0,16,.agg ⟨limL 16 f⟩)]⟩:Chunk).n<=(⟨w,16,[(0,16,.agg ⟨limL 16 f⟩)]⟩:Chunk).n/\qbb ix ⟨w,16,[(0,16,.agg ⟨limL 16 f⟩)]⟩ ⟨false,16,[(0,16,.agg ⟨limL 16 f⟩)]⟩:=
 qij (qbz (qcy _ _) (qae _ _))
theorem jnk (x y b:Nat) (hb:b<=1) (w:World):(callFunc 187 #[.int .u64 x,.int .u64 y,.int .u64 b]).run prog w =
  .ok (.value (.tuple #[.int .u64 (((x+18446744073709551616-y-b)%18446744073709551616:Nat):Int),.int .u64 ((if x<y+b then 1 else 0:Nat):Int)])) w:=by
 rw[run_callFunc_extern func187 Q8O Q8O Q8O (e:=Proofs.sub64Entry) Q8O,Proofs.run_sub64 x y b hb]
 rfl
theorem qgn (x y b p q:Nat) (h:Hp) (hb:b<=1) (hp:(x+18446744073709551616-y-b)%18446744073709551616=p) (hq:(if x<y+b then 1 else 0)=q):qaf prog 187 [.int .u64 x,.int .u64 y,.int .u64 b] h (.tuple #[.int .u64 p,.int .u64 q]) [] []:=by
 subst hp;subst hq;exact qtt rfl rfl fun w=>jnk x y b hb w
def jgs (d i:Nat):Nat->Nat:=fun j=>if j<i then dg d j else 0
theorem qv8 (d:Nat):limL 16 (jgs d 0)=limL 16 (fun _=>0):=qcl fun j _=>by simp[jgs]
theorem qy6 (d:Nat):limL 16 (jgs d 16)=limL 16 (dg d):=qcl fun j hj=>by unfold jgs;rw[if_pos hj]
theorem jnl (i j v u:Nat) (n1 o1 n2 o2 w1 w2:Bool) (h:Hp) (hi:h[i]?=some (some ⟨w1,18,[(0,18,.agg ⟨wiL n1 o1 v⟩)]⟩)) (hj:h[j]?=some (some ⟨w2,18,[(0,18,.agg ⟨wiL n2 o2 u⟩)]⟩)) (huv:u<=v) :
  qaf prog 156 [.pointer (some ⟨i,2,some 0⟩),.pointer (some ⟨j,2,some 0⟩)] h (.agg ⟨limL 16 (dg (v-u))⟩) [] [i,j]:=by
 obtain⟨d,rfl⟩:∃ d,v=u+d:=⟨v-u,by omega⟩
 rw[zB]
 refine qal (G:=tys) [⟨i,_,⟨false,18,[(0,18,.agg ⟨wiL n1 o1 (u+d)⟩)]⟩,⟨false,0,[]⟩⟩,⟨j,_,⟨false,18,[(0,18,.agg ⟨wiL n2 o2 u⟩)]⟩,⟨false,0,[]⟩⟩] [] [.pointer (some ⟨0,2,some 0⟩),.pointer (some ⟨1,2,some 0⟩)] tysOK mixed func156 Q8I (call156) ⟨hi,hj,xb⟩ ⟨wi_re _ _ _,wi_re _ _ _,xb⟩ Q8N xb Q6W ?_
 repeat' (refine Bb ?_;first|refine Q55 ?_|fail)
 refine Bb ?_
 refine Bt (α:=Nat) (fun i=>i<=16) (fun i=>16-i) (fun i=>[(8,xc (i:Int)),(6,.int .u64 ((cry u d i:Nat):Int))]) (fun i=>[(3,⟨true,16,[(0,16,.agg ⟨limL 16 (jgs d i)⟩)]⟩)]) 0 (xm _) ?_ ?_
 ·repeat (refine Bb ?_;first|exact Bg|with_reducible (first|refine Ba rfl ?_|refine Ba (ChunkLe.refl _) ?_)|refine Ba (ChunkLe.of (by rw[qv8];rfl)) ?_|refine Ba (by rw[qdc];rfl) ?_)
 ·intro i hi;by_cases hlt:i<16
  ·have c1:dg u i+dg d i+cry u d i=dg (u+d) i+18446744073709551616*cry u d (i+1):=qke u d i;have c2:=qdl u d i;have c3:=qdl u d (i+1);have c4:=jd4 u i;have c5:=jd4 d i;have c6:=jd4 (u+d) i;have hp:(dg (u+d) i+18446744073709551616-dg u i-cry u d i)%18446744073709551616=dg d i:=by omega
   have hq:(if dg (u+d) i<dg u i+cry u d i then 1 else 0)=cry u d (i+1):=by split<;>omega
   repeat' (refine Bb ?_;first|refine Q55 ?_|refine Q5p ?_|refine Bm i 1 rfl hlt ?_|refine Bn _ (qn9 (p:=i) hlt rfl) ?_|refine Bc (qgn _ _ _ _ _ _ c2 hp hq) ?_|refine N.store ⟨true,16,[(0,16,.agg ⟨limL 16 (jgs d (i+1))⟩)]⟩ (qcd (p:=i) hlt Q9b (by unfold jgs;rw[if_pos Q8G]) (fun k _ hk=>by unfold jgs;by_cases h:k<i<;>simp[h]<;>omega)) ?_|fail)
   exact Q2S
  ·obtain rfl:i=16:=by omega
   refine Bb ?_;refine Be Q8H ?_;rw[qy6];repeat' (refine Bb ?_;first|refine Q55 ?_|exact Bg|refine Ba xb ?_|refine Ba (.plain (qae _ _)) ?_|fail)
theorem jhk (i f v j g u:Nat) (h:Hp) (h1:Has h i f v) (h2:Has h j g u) (hv:v<Bs^16) (hu:u<Bs^16):qaf prog 155 [.pointer (some ⟨i,f,some 0⟩),.pointer (some ⟨j,g,some 0⟩)] h (xc (cm v u)) [] [i,j]:=
 qgk [i,j] rfl (call155) fun ρ w hc=>(qyr (ρ i).1 ((ρ i).2+f) v (ρ j).1 ((ρ j).2+g) u w (h1.digs Q8R hc) (h2.digs Q8R hc) hv hu).mono (by rintro e w' ⟨he,hb,_⟩;exact⟨he,hb⟩)
theorem qy7 (v u:Nat) (h:v+u<Bs^16):cry v u 16=0:=by
 unfold cry;have h1:v%Bs^16<=v:=Nat.mod_le _ _;have h2:u%Bs^16<=u:=Nat.mod_le _ _;exact xW Q8G
theorem qj9 (v u:Nat) (hv:v<Top) (hu:u<Top) (hs:v+u<Top) (w:World):xa 130 #[.agg ⟨wiL false false v⟩,.agg ⟨wiL false false u⟩] w (.agg ⟨wiL (false&&decide (v+u≠0)) false (v+u)⟩):=Q1w
theorem qmb (v u:Nat) (hv:v<Top) (hu:u<Top) (hs:u<=v) (w:World):xa 130 #[.agg ⟨wiL false false v⟩,.agg ⟨wiL true false u⟩] w (.agg ⟨wiL (false&&decide (v-u≠0)) false (v-u)⟩):=Q1j
theorem qmc (v u:Nat) (hv:v<Top) (hu:u<Top) (hs:v<u) (w:World):xa 130 #[.agg ⟨wiL false false v⟩,.agg ⟨wiL true false u⟩] w (.agg ⟨wiL (true&&decide (u-v≠0)) false (u-v)⟩):=Q1h
theorem qlc (v u:Nat) (hv:v<Top) (hu:u<Top) (hs:v+u<Top) (w:World):xa 130 #[.agg ⟨wiL true false v⟩,.agg ⟨wiL true false u⟩] w (.agg ⟨wiL (true&&decide (v+u≠0)) false (v+u)⟩):=Q1w
theorem qoe (v u:Nat) (hv:v<Top) (hu:u<Top) (hs:u<=v) (w:World):xa 130 #[.agg ⟨wiL true false v⟩,.agg ⟨wiL false false u⟩] w (.agg ⟨wiL (true&&decide (v-u≠0)) false (v-u)⟩):=Q1j
theorem qof (v u:Nat) (hv:v<Top) (hu:u<Top) (hs:v<u) (w:World):xa 130 #[.agg ⟨wiL true false v⟩,.agg ⟨wiL false false u⟩] w (.agg ⟨wiL (false&&decide (u-v≠0)) false (u-v)⟩):=Q1h
variable {z:Int}
theorem qjw (h:z<0):wz z=.agg ⟨wiL true false z.natAbs⟩:=by unfold wz;rw[xi h]
theorem qjx (h:0<=z):wz z=.agg ⟨wiL false false z.natAbs⟩:=by unfold wz;rw[xf Q8G]
theorem jhl {b:Bool} (h1:n=z.natAbs) (h2:b=decide (z<0)):(Value.agg ⟨wiL b false n⟩)=wz z:=by subst h1 h2;rfl
theorem jnm (a b:Int) (ha:a.natAbs<Top) (hb:b.natAbs<Top) (hab:(a+b).natAbs<Top) (w:World):xa 130 #[wz a,wz b] w (wz (a+b)):=by
 by_cases h1:a<0<;>by_cases h2:b<0
 ·rw[qjw h1,qjw h2];have:=qlc a.natAbs b.natAbs ha hb Q8G w;rwa[jhl (b:=true&&decide (a.natAbs+b.natAbs≠0)) (n:=a.natAbs+b.natAbs) (z:=a+b) Q8G Q9D] at this
 ·rw[qjw h1,qjx (by omega:0<=b)];by_cases h3:b.natAbs<=a.natAbs
  ·have:=qoe a.natAbs b.natAbs ha hb h3 w;rwa[jhl (b:=true&&decide (a.natAbs-b.natAbs≠0)) (n:=a.natAbs-b.natAbs) (z:=a+b) Q8G Q9D] at this
  ·have:=qof a.natAbs b.natAbs ha hb Q8G w;rwa[jhl (b:=false&&decide (b.natAbs-a.natAbs≠0)) (n:=b.natAbs-a.natAbs) (z:=a+b) Q8G Q9K] at this
 ·rw[qjx (by omega:0<=a),qjw h2];by_cases h3:b.natAbs<=a.natAbs
  ·have:=qmb a.natAbs b.natAbs ha hb h3 w;rwa[jhl (b:=false&&decide (a.natAbs-b.natAbs≠0)) (n:=a.natAbs-b.natAbs) (z:=a+b) Q8G Q9K] at this
  ·have:=qmc a.natAbs b.natAbs ha hb Q8G w;rwa[jhl (b:=true&&decide (b.natAbs-a.natAbs≠0)) (n:=b.natAbs-a.natAbs) (z:=a+b) Q8G Q9D] at this
 ·rw[qjx (by omega:0<=a),qjx (by omega:0<=b)];have:=qj9 a.natAbs b.natAbs ha hb Q8G w;rwa[jhl (b:=false&&decide (a.natAbs+b.natAbs≠0)) (n:=a.natAbs+b.natAbs) (z:=a+b) Q8G Q9K] at this
theorem jgt (a b:Int) (h:Hp) (ha:a.natAbs<Top) (hb:b.natAbs<Top) (hab:(a+b).natAbs<Top):qaf prog 130 [wz a,wz b] h (wz (a+b)) [] []:=
 qai Q98 (qaj _) (call130 _) (jnm a b ha hb hab)
theorem q7z (a b:Int) (ha:a.natAbs<Top) (hb:b.natAbs<Top) (hab:(a-b).natAbs<Top) (w:World):xa 97 #[wz a,wz b] w (wz (a-b)):=by
 have hn:(-b).natAbs<Top:=by rwa[yG]
 have hs:(a + -b).natAbs<Top:=by rwa[<-Int.sub_eq_add_neg]
 refine qac (G:=tys) w tysOK mixed func97 Q8I Q8K Q8J ?_;repeat' (refine Bb ?_;first|with_reducible (first|refine Ba Q8H ?_|refine Ba (qab _ _ _) ?_|refine Ba (qaa _ _) ?_|refine Bk ?_|refine Ba rfl ?_|refine Ba ⟨by kernel_rfl,by kernel_rfl⟩ ?_|refine Bj ?_|refine Bh ?_|refine Bi ?_|refine Bc (jhv _ _ hb) ?_|refine Bc (jgt _ _ _ ha hn hs) ?_)|fail)
 all_goals (rw[Int.sub_eq_add_neg])
theorem jeg (a b:Int) (h:Hp) (ha:a.natAbs<Top) (hb:b.natAbs<Top) (hab:(a-b).natAbs<Top):qaf prog 97 [wz a,wz b] h (wz (a-b)) [] []:=
 qai Q98 (qaj _) (call97 _) (q7z a b ha hb hab)
def sgn (z:Int):Int:=if z<0 then -1 else if z=0 then 0 else 1
theorem qog (z:Int):sgn z > 0↔z > 0:=by unfold sgn;split<;>(try split)<;>omega
theorem qjk (z:Int):sgn z>=0↔z>=0:=by unfold sgn;split<;>(try split)<;>omega
theorem q29 (z:Int) (hz:z.natAbs<Top) (w:World):xa 65 #[wz z] w (xc (sgn z)):=by
 have hz16:=xC hz qbr;refine qac (G:=tys) w tysOK mixed func65 Q8I Q8K Q8J ?_;repeat' (refine Bb ?_;first|with_reducible (first|refine Ba Q8H ?_|refine Ba (qab _ _ _) ?_|refine Ba (qaa _ _) ?_|refine Bk ?_|refine Ba rfl ?_|refine Ba ⟨by kernel_rfl,by kernel_rfl⟩ ?_|refine Bj ?_|refine Bh ?_|refine Bi ?_|refine B6 _ (qfz _ _ _ _ hz16 false rfl) ?_)|with_reducible refine Bp (fun hb=>?_) (fun hb=>?_)|fail)
 all_goals
  simp only[xh,xk,xJ,if_false] at *
  unfold sgn
  first
   | rw[if_neg Q8G,if_pos Q8G]
   | rw[if_pos Q8G]
   | rw[if_neg Q8G,if_neg Q8G]
theorem jeh (z:Int) (h:Hp) (hz:z.natAbs<Top):qaf prog 65 [wz z] h (xc (sgn z)) [] []:=
 qai Q98 rfl (call65 _) (q29 z hz)
theorem ja5 (n:Nat):dg n 0=n%18446744073709551616:=by
 show n / Bs^0%Bs=_;rw[Nat.pow_zero,Nat.div_one]
def jie (z:Int):Bool:=decide (-9223372036854775808<=z/\z<9223372036854775808)
def n64 (z:Int):Int:=if jie z then z else 0
theorem tup2 {a b:Int} (h:a=b):Value.tuple ⟨[Value.int IntKind.i64 a,Value.bool true]⟩=Value.tuple #[Value.int IntKind.i64 b,Value.bool true]:=by rw[h]
theorem qmu (h : -9223372036854775808<=z/\z<9223372036854775808):jie z=true/\n64 z=z:=by
 have:jie z=true:=xi h;exact⟨this,by unfold n64;rw[this];rfl⟩
theorem qy8 (h:¬ (-9223372036854775808<=z/\z<9223372036854775808)):jie z=false/\n64 z=0:=by
 have:jie z=false:=xf h;exact⟨this,by unfold n64;rw[this];rfl⟩
theorem jnn (n:Nat) (hn:n<Bs^16):bl n<=64↔n<18446744073709551616:=
 ⟨fun h=>xj (qsj n hn).1 (xY Q8H h:2^bl n<=2^64),fun h=>qob n 64 hn h⟩
theorem q70 (z:Int) (hz:z.natAbs<Top) (w:World):xa 214 #[.agg ⟨wiL (decide (z<0)) false z.natAbs⟩] w (.tuple #[xc (n64 z),.bool (jie z)]):=by
 have hz16:=xC hz qbr;refine qac (G:=tys) w tysOK mixed func214 Q8I Q8K Q8J ?_;repeat' (refine Bb ?_;first|refine Q5v ?_|with_reducible refine Bp (fun hb=>?_) (fun hb=>?_)|refine Bc (jlj _ _ _ _ (qcu Q8I)) ?_|fail)
 all_goals
  have hbl:=jnn z.natAbs hz16
  have hdg:=ja5 z.natAbs
  try simp only[xN,xq]
  generalize bl z.natAbs=B at *
  generalize dg z.natAbs 0=D at *
  clear hz hz16
  simp only[xh,xk,yj,beq_eq_false_iff_ne,zp,zC,ne_eq,yb] at *
  first
   | (obtain⟨e1,e2⟩:=qmu (z:=z) Q8G;rw[e1,e2];exact tup2 Q8G)
   | (obtain⟨e1,e2⟩:=qy8 (z:=z) Q8G;rw[e1,e2])
theorem ja6 (z:Int) (h:Hp) (hz:z.natAbs<Top):qaf prog 214 [wz z] h (.tuple #[xc (n64 z),.bool (jie z)]) [] []:=
 qai Q98 rfl (call214 _) (q70 z hz)
def e64 (z:Int):Int:=if jie z then 0 else 2
theorem q3a (z:Int) (hz:z.natAbs<Top) (w:World):xa 194 #[wz z,xc 0] w (.tuple #[xc (n64 z),xc (e64 z)]):=by
 refine qac (G:=tys) w tysOK mixed func194 Q8I Q8K Q8J ?_;repeat' (refine Bb ?_;first|refine Q5v ?_|with_reducible refine Bp (fun hb=>?_) (fun hb=>?_)|with_reducible refine Bc (ja6 z _ hz) ?_|fail)
 ·exfalso;exact absurd hb Q8H
 ·have h:jie z=false:=by simpa using hb
  unfold n64 e64;rw[h];rfl
 ·have h:jie z=true:=by simpa using hb
  unfold e64;rw[h];rfl
theorem qh0 (z:Int) (h:Hp) (hz:z.natAbs<Top):qaf prog 194 [wz z,xc 0] h (.tuple #[xc (n64 z),xc (e64 z)]) [] []:=
 qai (by simp[qad];rfl) rfl (call194 _) (q3a z hz)
def isqTo (v:Nat):Nat->Nat
 | 0=>0
 | n+1=>if (n+1)*(n+1)<=v then n+1 else isqTo v n
def isq (v:Nat):Nat:=isqTo v v
theorem quh (v:Nat):∀ n,isqTo v n*isqTo v n<=v
 | 0=>xm _
 | n+1=>by
  rw[isqTo];split
  ·assumption
  ·exact quh v n
theorem qui (v:Nat):∀ n,v<(n+1)*(n+1)->v<(isqTo v n+1)*(isqTo v n+1)
 | 0,h=>h
 | n+1,h=>by
  rw[isqTo];split
  ·exact h
  ·rename_i hn;exact qui v n Q8G
theorem qqs (v:Nat):isq v*isq v<=v:=quh v v
theorem q5w (v:Nat):v<(isq v+1)*(isq v+1):=qui v v (by
 have:v+1<=(v+1)*(v+1):=Nat.le_mul_of_pos_left _ Q8G;omega)
theorem qsm {a b:Nat} (h:a*a<b*b):a<b:=by
 rcases yL a b with h1|h1
 ·exact h1
 ·have:=yC h1 h1;omega
theorem q5x {v x:Nat} (h:x*x<=v):x<=isq v:=by
 have:=q5w v;have:=qsm (xR h this);omega
theorem q71 {v:Nat} (h:0<v):0<isq v:=q5x (x:=1) Q8G
theorem qit {v:Nat} (h:v<n*n):isq v<n:=qsm (xR (qqs v) h)
theorem qqt (v x:Nat) (hx:0<x):isq v<=(x+v / x) / 2:=by
 have hr:=qqs v;rcases yL ((x+v / x) / 2) (isq v) with h|h
 ·exfalso;generalize isq v=r at *;have hq:=Nat.lt_div_mul_add (a:=v) hx;generalize hqq:v / x=q at *;have h1:x+q+1<=2*r:=by omega
  obtain⟨d,hd⟩:∃ d,q+1+x+d=2*r:=⟨2*r-(x+q+1),by omega⟩;have h2:v<(q+1)*x:=by rw[xA];omega
  rcases Nat.le_total r x with hxr|hxr
  ·obtain⟨e,rfl⟩:∃ e,x=r+e:=⟨x-r,by omega⟩;have h3:q+1+e<=r:=by omega
   have h4:(q+1)*(r+e)<=r*r:=by
    obtain⟨f,rfl⟩:∃ f,r=q+1+e+f:=⟨r-(q+1+e),by omega⟩;simp only[xA,yU];have c1:q*e=e*q:=xl _ _;have c2:q*f=f*q:=xl _ _;have c3:e*f=f*e:=xl _ _;generalize q*q=t1 at *;generalize e*q=t2 at *;generalize f*q=t3 at *;generalize e*e=t4 at *;generalize f*e=t5 at *;generalize f*f=t6 at *;omega
   omega
  ·obtain⟨e,rfl⟩:∃ e,r=x+e:=⟨r-x,by omega⟩;have h3:q+1<=x+2*e:=by omega
   have h4:(q+1)*x<=(x+2*e)*x:=xX _ h3;have h5:(x+2*e)*x<=(x+e)*(x+e):=by
    simp only[xA,yU,x7];have c1:e*x=x*e:=xl _ _;generalize x*x=t1 at *;generalize x*e=t2 at *;generalize e*e=t3 at *;omega
   omega
 ·exact h
theorem qmv (v x:Nat) (hx:0<x) (h0:isq v<=x) (h:x<=(x+v / x) / 2):x=isq v:=by
 have h1:x<=v / x:=by omega
 have h2:x*x<=v:=(ze hx).1 h1;have:=q5x h2;omega
theorem qqu (v:Nat) (hv:v<Bs^16):isq v<2^((bl v+1) / 2):=by
 apply qit;refine xj (qsj v hv).1 ?_;rw[<-yc];exact xY Q8H Q8G
open Go Go.RowKit Sx
theorem cUp (i f v k:Nat) (h:Hp) (h1:Has h i f v) (hk:k<64):qaf prog 235 [.pointer (some ⟨i,f,some 0⟩),xc k] h (.agg ⟨limL 16 (dg (v*2^k))⟩) [] [i]:=
 qgk [i] (qae _ _) (call235) fun ρ w hc=>jay (ρ i).1 ((ρ i).2+f) v k hk w (h1.digs Q8R hc)
theorem fd2 (n:Nat):((n:Nat):Int).fdiv (2^sh (Int.tmod 1 64) IntKind.u64)=((n / 2:Nat):Int):=by
 rw[show sh (Int.tmod 1 64) IntKind.u64=1 from by decide,Int.fdiv_eq_ediv_of_nonneg _ Q8H];omega
def dn1 (v:Nat):Bool:=IntKind.u64.wrap (((dg v 0:Nat):Int)*2^63) != 0
theorem qsn (v:Nat):limL 16 (qb8 v 1 0)=limL 16 (fun _=>0):=qcl fun j _=>by simp[qb8]
theorem qv9 (v:Nat):limL 16 (qb8 v 1 16)=limL 16 (dg (v / 2)):=qcl fun j hj=>by unfold qb8;rw[if_pos hj]
def downM (v i:Nat):Nat->Nat:=fun j=>if j=i then dg v i / 2 else qb8 v 1 i j
theorem quj (i v:Nat) (w1:Bool) (h:Hp) (hi:h[i]?=some (some ⟨w1,16,[(0,16,.agg ⟨limL 16 (dg v)⟩)]⟩)) (hv:v<Bs^16) :
  qaf prog 237 [xd i,xc 1] h (.tuple #[.agg ⟨limL 16 (dg (v / 2))⟩,.bool (dn1 v)]) [] [i]:=by
 refine qal (G:=tys) [⟨i,_,⟨false,16,[(0,16,.agg ⟨limL 16 (dg v)⟩)]⟩,⟨false,0,[]⟩⟩] [] [xd 0,xc 1] tysOK mixed func237 Q8I (call237) ⟨hi,xb⟩ ⟨q5v _,xb⟩ Q8N xb Q6E ?_
 repeat' (refine Bb ?_;first|with_reducible (first|refine Ba Q8H ?_|refine Ba (qab _ _ _) ?_|refine Ba (qaa _ _) ?_|refine Bk ?_|refine Ba rfl ?_|refine Ba ⟨by kernel_rfl,by kernel_rfl⟩ ?_|refine Bj ?_|refine Bh ?_|refine Bi ?_|refine B8 ?_)|fail)
 refine Bb ?_
 refine Bu 1 ?_
 repeat' (refine Bb ?_;first|refine Q55 ?_|refine Q5b ?_|fail)
 refine Bb ?_
 refine Bt (α:=Nat) (fun i=>i<=16) (fun i=>16-i) (fun i=>[(9,xc (i:Int))]) (fun i=>[(2,⟨true,16,[(0,16,.agg ⟨limL 16 (qb8 v 1 i)⟩)]⟩)]) 0 (xm _) ?_ ?_
 ·repeat (refine Bb ?_;first|exact Bg|with_reducible (first|refine Ba rfl ?_|refine Ba (ChunkLe.refl _) ?_)|refine Ba (ChunkLe.of (by rw[qsn];rfl)) ?_)
 ·intro n hn;by_cases hlt:n<16
  ·have hs:=qn6 v n 1 Q8H;have hd:=jd4 v n;have hd1:=jd4 v (n+1);have hst:∀ k,k<16->k≠n->downM v n k=qb8 v 1 n k:=fun k _ hk=>by unfold downM;rw[if_neg hk]
   by_cases hlt2:n+1<16
   ·have hfin:bits .or .u64 (((dg v n / 2:Nat):Int)) (IntKind.u64.wrap (((dg v (n+1):Nat):Int)*2^63))=((qb8 v 1 (n+1) n:Nat):Int):=by
     have:=qyu (dg v n) (dg v (n+1)) 1 Q8H Q8H hd;rw[qis,hs,<-this,qc2]
    repeat' (refine Bb ?_;first|refine Q55 ?_|refine Bf (by rw[xh];(try rw[IntWalk.i64_in _ Q8G]);omega) ?_|refine Bm n 1 (by first|rfl|(rw[show IntKind.i64.wrap (Int.tdiv 1 64)=0 from by decide,IntWalk.i64_in _ Q8G];omega)) hlt ?_|refine Bm (n+1) 1 Q9C hlt2 ?_|refine Bn _ (qau (p:=n+1) hlt2 Q9b) ?_|refine Bn _ (qau (f:=dg v) (p:=n) hlt Q9b) ?_|refine Bn (.int .u64 ((dg v n / 2:Nat):Int)) (by have:=qau (o:=true) (f:=downM v n) (p:=n) (q:=n) hlt rfl;unfold downM at this;rw[if_pos rfl] at this;exact this) ?_|refine N.store ⟨true,16,[(0,16,.agg ⟨limL 16 (downM v n)⟩)]⟩ (qcd (f:=qb8 v 1 n) (g:=downM v n) (p:=n) hlt Q9b (by unfold downM;rw[if_pos rfl];exact fd2 _) hst) ?_|refine N.store ⟨true,16,[(0,16,.agg ⟨limL 16 (qb8 v 1 (n+1))⟩)]⟩ (qcd (f:=downM v n) (g:=qb8 v 1 (n+1)) (p:=n) hlt Q9b hfin (fun k hk hk1=>by rw[hst k hk hk1];exact(qfy v 1 n k hk1).symm)) ?_|refine Q5e ?_|fail)
    refine Bb ?_;refine N.next (n+1) ⟨by omega,by omega⟩ ?_;exact Q0t
   ·obtain rfl:n=15:=by omega
    have hz15:dg v (15+1)=0:=qbt v 16 hv;repeat' (refine Bb ?_;first|refine Q55 ?_|refine Q5e ?_|refine Q5d ?_|refine Bm 15 1 (by first|rfl|decide) Q8H ?_|refine Bn _ (qau (f:=dg v) (p:=15) Q8H Q9b) ?_|refine N.store ⟨true,16,[(0,16,.agg ⟨limL 16 (qb8 v 1 16)⟩)]⟩ (qcd (f:=qb8 v 1 15) (g:=qb8 v 1 16) (p:=15) Q8H Q9b (by rw[qis v 1 15,hs,hz15];exact(fd2 _).trans Q8R) (fun k _ hk1=>(qfy v 1 15 k hk1).symm)) ?_|fail)
    refine Bb ?_;refine N.next 16 ⟨by omega,by omega⟩ ?_;repeat (refine Bb ?_;first|exact Bg|with_reducible (first|refine Ba rfl ?_|refine Ba (ChunkLe.refl _) ?_)|refine Ba (qa2 Q8H) ?_)
  ·obtain rfl:n=16:=by omega
   refine Bb ?_;refine Be Q8H ?_;rw[qv9];repeat' (refine Bb ?_;first|refine Q55 ?_|exact Bg|refine Ba xb ?_|refine Bm 0 0 Q8H Q8H ?_|refine Ba (.plain (by simp[qan,qae];rfl)) ?_|refine Q5e ?_|fail)
theorem qiu (n:Nat) (f:Nat->Nat):(limL n f).all lit1=true:=by simp[limL,lit1]
theorem qoh (n o:Bool) (v:Nat):(wiL n o v).all lit1=true:=by simp[wiL,qiu,lit1]
theorem jqa (i f v k:Nat) (kk:Int) (h:Hp) (h1:Has h i f v) (hk:k<64) (e:kk=(k:Nat)):qaf prog 235 [.pointer (some ⟨i,f,some 0⟩),xc kk] h (.agg ⟨limL 16 (dg (v*2^k))⟩) [] [i]:=by
 subst e;exact cUp i f v k h h1 hk
theorem jml:(2:Nat)^125=42535295865117307932921825928971026432:=by decide
theorem jmm:(2:Nat)^126=85070591730234615865843651857942052864:=by decide
theorem jpn:(2:Nat)^127=170141183460469231731687303715884105728:=by decide
theorem qso (h:n<2^127):n<Top:=xC h (yN (a:=2) Q8H (by decide:127<qhy))
theorem qld (h:n<2^126):n<Top:=qso (by have:=jmm;have:=jpn;omega)
theorem qqv (v:Nat) (hv:v<2^126):isq v<9223372036854775808:=qit (n:=9223372036854775808) Qa7
theorem ja7 (v:Nat) (hv:v<2^126) (w:World):xa 246 #[.agg ⟨wiL false false v⟩] w (.tuple #[.agg ⟨wiL false false (isq v)⟩,xc 0]):=by
 have hv16:v<Bs^16:=xC (qld hv) qbr;have hbl:bl v<=126:=qob v 126 hv16 hv;have hq:=qqv v hv;have htop:∀ x:Nat,x<18446744073709551616->x<Top:=fun x hx=>qld Qa7
 refine qac (G:=tys) w tysOK mixed func246 Q8I (by simp[qag]) (by simp[qan,qag];rfl) ?_;by_cases h0:v=0
 ·subst h0;repeat' (refine Bb ?_;first|refine Q5V ?_|refine Q5e ?_|fail)
  all_goals (rw[show isq 0=0 from by decide])
 ·have hk:(bl v+1) / 2<64:=by omega
  have hkk:IntKind.i64.wrap ((IntKind.i64.wrap (((bl v:Nat):Int)+1)).tdiv 2)=(((bl v+1) / 2:Nat):Int):=by
   rw[IntWalk.i64_in (((bl v:Nat):Int)+1) Q8G,Int.tdiv_eq_ediv_of_nonneg Q8G,IntWalk.i64_in _ Q8G];omega
  have hst:=qqu v hv16;have hqp:=q71 (v:=v) Q8G;repeat' (refine Bb ?_;first|refine Q5V ?_|refine Be (by simp[h0];first|done|fail) ?_|refine Bc (jlj _ _ _ _ (qcu Q8I)) ?_|refine Bc (jqa _ _ 1 ((bl v+1) / 2) _ _ (qsl Q8I) hk hkk) ?_|fail)
  refine Bb ?_;first
  |
   refine Bt (α:=Nat) (fun x=>0<x/\x<18446744073709551616/\isq v<=x) (fun x=>x) (fun _=>[]) (fun x=>[(11,⟨true,16,[(0,16,.agg ⟨limL 16 (dg x)⟩)]⟩)]) (1*2^((bl v+1) / 2)) ⟨by omega,by
    have:2^((bl v+1) / 2)<2^64:=yN Q8H hk;have e:(2:Nat)^64=18446744073709551616:=by decide
    omega,by omega⟩ ?_ ?_
   ·exact Q2M
   ·exact Q0k
  |
   refine Bt (α:=Nat) (fun x=>0<x/\x<18446744073709551616/\isq v<=x) (fun x=>x) (fun _=>[]) (fun x=>[(7,⟨true,16,[(0,16,.agg ⟨limL 16 (dg x)⟩)]⟩)]) (1*2^((bl v+1) / 2)) ⟨by omega,by
    have:2^((bl v+1) / 2)<2^64:=yN Q8H hk;have e:(2:Nat)^64=18446744073709551616:=by decide
    omega,by omega⟩ ?_ ?_
   ·exact Q2M
   ·exact Q0k
theorem wzn (n:Nat):wz (n:Int)=.agg ⟨wiL false false n⟩:=by unfold wz;rw[xf Q8G,yQ]
theorem q5y (v:Nat) (h:Hp) (hv:v<2^126):qaf prog 246 [wz (v:Int)] h (.tuple #[wz (isq v:Nat),xc 0]) [] []:=
 qai Q98 Q9O (call246 _) fun w=>by
  have:=ja7 v hv w;rw[wzn,wzn];exact this
def cmz (a b:Int):Int:=if a<b then -1 else if b<a then 1 else 0
theorem q3b (v u:Nat) (hv:v<Top) (hu:u<Top) (w:World):xa 247 #[.agg ⟨wiL false false v⟩,.agg ⟨wiL false false u⟩] w (.tuple #[xc (cm v u),.bool true]):=Q1e
theorem q3c (v u:Nat) (hv:v<Top) (hu:u<Top) (w:World):xa 247 #[.agg ⟨wiL true false v⟩,.agg ⟨wiL true false u⟩] w (.tuple #[xc (cm u v),.bool true]):=Q1e
theorem q3d (v u:Nat) (hv:v<Top) (hu:u<Top) (w:World):xa 247 #[.agg ⟨wiL true false v⟩,.agg ⟨wiL false false u⟩] w (.tuple #[xc (-1),.bool true]):=Q1q
theorem q3e (v u:Nat) (hv:v<Top) (hu:u<Top) (w:World):xa 247 #[.agg ⟨wiL false false v⟩,.agg ⟨wiL true false u⟩] w (.tuple #[xc (1),.bool true]):=Q1q
theorem jno (a b:Int) (ha:a.natAbs<Top) (hb:b.natAbs<Top) (w:World):xa 247 #[wz a,wz b] w (.tuple #[xc (cmz a b),.bool true]):=by
 by_cases h1:a<0<;>by_cases h2:b<0
 ·rw[qjw h1,qjw h2];have:=q3c a.natAbs b.natAbs ha hb w;rwa[show cm b.natAbs a.natAbs=cmz a b from by unfold cm cmz;split<;>split<;>(try split)<;>(try split)<;>omega] at this
 ·rw[qjw h1,qjx (by omega:0<=b)];have:=q3d a.natAbs b.natAbs ha hb w;rwa[show(-1:Int)=cmz a b from by unfold cmz;rw[if_pos Q8G]] at this
 ·rw[qjx (by omega:0<=a),qjw h2];have:=q3e a.natAbs b.natAbs ha hb w;rwa[show xc 1=xc (cmz a b) from by unfold cmz;rw[if_neg Q8G,if_pos Q8G]] at this
 ·rw[qjx (by omega:0<=a),qjx (by omega:0<=b)];have:=q3b a.natAbs b.natAbs ha hb w;rwa[show cm a.natAbs b.natAbs=cmz a b from by unfold cm cmz;split<;>split<;>(try split)<;>(try split)<;>omega] at this
theorem jnp (a b:Int) (h:Hp) (ha:a.natAbs<Top) (hb:b.natAbs<Top):qaf prog 247 [wz a,wz b] h (.tuple #[xc (cmz a b),.bool true]) [] []:=
 qai Q98 rfl (call247 _) (jno a b ha hb)
def usq (n:Nat):Nat:=if isq n*isq n<n then isq n+1 else isq n
theorem qmw (n:Nat):n<=usq n*usq n:=by
 unfold usq;have:=q5w n;split<;>omega
theorem quk (h:n<=m*m):usq n<=m:=by
 unfold usq;have h1:=qqs n;split
 ·rename_i h2;exact qsm (xj h2 h)
 ·have:isq n*isq n<=m*m:=by omega
  rcases yL m (isq n) with h3|h3
  ·have:=zg h3 h3;omega
  ·exact h3
theorem q3f (n:Nat) (hn5:n<2^125) (w:World):xa 238 #[wz (n:Int)] w (.tuple #[xc (usq n:Nat),xc 0]):=by
 have hn:n<2^126:=by have:=jml;have:=jmm;omega
 have hq:=qqv n hn;have hle:=qqs n;have hqt:((isq n:Nat):Int).natAbs<Top:=by rw[yQ];exact qld Qa7
 have hq16:=xC hqt qbr;have hmt:(((isq n:Nat):Int)*((isq n:Nat):Int)).natAbs<Top:=by rw[<-x6,yQ];exact qld (xR hle hn)
 have hnt:((n:Nat):Int).natAbs<Top:=by rw[yQ];exact qld hn
 have h1t:(1:Int).natAbs<Top:=qld (n:=1) Q8H;have hst:(((isq n:Nat):Int)+1).natAbs<Top:=by
  rw[show((isq n:Nat):Int)+1=((isq n+1:Nat):Int) from rfl,yQ];exact qld Qa7
 obtain⟨a1,a2⟩:=qmu (z:=((isq n:Nat):Int)) (by clear hmt hnt hst hle;omega);obtain⟨b1,b2⟩:=qmu (z:=((isq n:Nat):Int)+1) (by clear hmt hnt hst hle;have:isq n<9223372036854775807:=qit (by have:=jml;omega);omega);have a3:e64 ((isq n:Nat):Int)=0:=by unfold e64;rw[a1];rfl
 have b3:e64 (((isq n:Nat):Int)+1)=0:=by unfold e64;rw[b1];rfl
 have hcm:cmz (((isq n:Nat):Int)*((isq n:Nat):Int)) (n:Int)<0↔isq n*isq n<n:=by
  have:((isq n*isq n:Nat):Int)=((isq n:Nat):Int)*((isq n:Nat):Int):=x6 _ _;clear hqt hq16 hmt hnt h1t hst hle;generalize ((isq n:Nat):Int)*((isq n:Nat):Int)=A at *;generalize isq n*isq n=B at *;unfold cmz;split<;>(try split)<;>omega
 refine qac (G:=tys) w tysOK mixed func238 Q8I Q8K Q8J ?_;repeat' (refine Bb ?_;first|with_reducible (first|refine Ba Q8H ?_|refine Ba (qab _ _ _) ?_|refine Ba (qaa _ _) ?_|refine Bk ?_|refine Ba rfl ?_|refine Ba ⟨by kernel_rfl,by kernel_rfl⟩ ?_|refine Bj ?_|refine Bh ?_|refine Bi ?_|refine Bc (q5y _ _ hn) ?_|refine Bc (jdu _ _ _ hq16 hq16 hmt) ?_|refine Bc (jnp _ _ _ hmt hnt) ?_|refine Bc (jev _ _ Q8H Q8H) ?_|refine Bc (jgt _ _ _ hqt h1t hst) ?_|refine Bc (qh0 _ _ hqt) ?_|refine Bc (qh0 _ _ hst) ?_)|refine Q5e ?_|with_reducible refine Bp (fun hb=>?_) (fun hb=>?_)|fail)
 ·rw[xh] at hb;rw[b2,b3];unfold usq;rw[if_pos (hcm.1 hb)];rfl
 ·rw[xk] at hb;rw[a2,a3];unfold usq;rw[if_neg (fun h=>hb (hcm.2 h))]
theorem qy9 (n:Nat) (h:Hp) (hn:n<2^125):qaf prog 238 [wz (n:Int)] h (.tuple #[xc (usq n:Nat),xc 0]) [] []:=
 qai Q98 rfl (call238 _) (q3f n hn)
theorem qul (z:Int) (n:Nat) (h:Hp) (e:z=(n:Nat)) (hn:n<2^125):qaf prog 238 [wz z] h (.tuple #[xc (usq n:Nat),xc 0]) [] []:=by
 subst e;exact qy9 n h hn
theorem jqb (n:Int) (h1:n<9223372036854775808) (w:World):xa 216 #[xc n] w (xc (usq n.toNat:Nat)):=by
 have e:max 0 n=((n.toNat:Nat):Int):=by omega
 have hn:n.toNat<2^125:=by
  have:=jml;omega
 refine qac (G:=tys) w tysOK mixed func216 Q8I Q8K Q8J ?_;repeat' (refine Bb ?_;first|with_reducible (first|refine Ba Q8H ?_|refine Ba (qab _ _ _) ?_|refine Ba (qaa _ _) ?_|refine Bk ?_|refine Ba rfl ?_|refine Ba ⟨by kernel_rfl,by kernel_rfl⟩ ?_|refine Bj ?_|refine Bh ?_|refine Bi ?_|refine B8 ?_|refine N.max2 ?_|refine Bc (jev _ _ Q8G Q8G) ?_|refine Bc (qul _ _ _ e hn) ?_)|fail)
 all_goals rfl
theorem jqc (n:Int) (h:Hp) (h1:n<9223372036854775808):qaf prog 216 [xc n] h (xc (usq n.toNat:Nat)) [] []:=
 qai rfl rfl (call216 _) (jqb n h1)
open Go Go.RowKit Sx
theorem zt (h:z.natAbs<=1606938044258990275541962092341162602522202993782792835301376):z.natAbs<Top:=by
 have:(2:Nat)^201<Top:=yN (a:=2) Q8H (by decide:201<qhy);have e:(2:Nat)^201=3213876088517980551083924184682325205044405987565585670602752:=by decide
 omega
theorem zb (h:z.natAbs<=1606938044258990275541962092341162602522202993782792835301376):z.natAbs<Bs^16:=xC (zt h) qbr
theorem jfp {a b:Int} (ha:a.natAbs<=m) (hbb:b.natAbs<=n):(a*b).natAbs<=m*n:=by rw[zv];exact yC ha hbb
def qax (m x y:Int):Prop:=(-m<=x/\x<=m)/\(-m<=y/\y<=m)
instance (m x y:Int):Decidable (qax m x y):=by unfold qax;infer_instance
def jed (cx cy a b d:Int):Prop:=qax 4194304 cx cy/\(1<=a/\a<=70368744177664)/\(1<=d/\d<=70368744177664)/\(-70368744177664<=b/\b<=70368744177664)/\0<a*d-b*b
instance (cx cy a b d:Int):Decidable (jed cx cy a b d):=by unfold jed;infer_instance
def jhm (a b d:Int):Prop:=0<=a/\0<=d/\0<=a*d-b*b
instance (a b d:Int):Decidable (jhm a b d):=by unfold jhm;infer_instance
def qfq (a b d x y:Int):Prop:=jhm (a-x*x) (b-x*y) (d-y*y)
instance (a b d x y:Int):Decidable (qfq a b d x y):=by unfold qfq;infer_instance
def inP (cx cy a b d x y:Int):Prop:=jed cx cy a b d/\qax 1073741824 x y/\qfq a b d (x-cx) (y-cy)
instance (cx cy a b d x y:Int):Decidable (inP cx cy a b d x y):=by unfold inP;infer_instance
theorem q3g (x y m:Int) (hm:0<=m/\m<=1152921504606846976) (w:World):xa 62 #[.agg #[xc x,xc y],xc m] w (.bool (decide (qax m x y))):=by
 have hw:=jdx (0-m) Q8G Q8G;refine qac (G:=tys) w tysOK mixed func62 Q8I Q8K Q8J ?_;repeat' (refine Bb ?_;first|refine Q55 ?_|with_reducible refine Bp (fun hb=>?_) (fun hb=>?_)|fail)
 all_goals
  refine jfk ?_
  try rw[hw] at *
  simp only[xh,xk,xJ,false_iff,true_iff,iff_true,iff_false,reduceCtorEq,yq,xK,yr,yb] at *
  try try rw[hw] at *
  simp only[qax,jhm,jed] at *
  omega
theorem qle (x y m:Int) (h:Hp) (hm:0<=m/\m<=1152921504606846976):qaf prog 62 [.agg #[xc x,xc y],xc m] h (.bool (decide (qax m x y))) [] []:=
 qai Q8L Q90 (call62 _) (q3g x y m hm)
theorem qwa (x y:Int)  (w:World):xa 55 #[.agg #[xc x,xc y]] w (.bool (decide (qax 4194304 x y))):=by
 refine qac (G:=tys) w tysOK mixed func55 Q8I Q8K Q8J ?_;repeat' (refine Bb ?_;first|with_reducible (first|refine Ba Q8H ?_|refine Ba (qab _ _ _) ?_|refine Ba (qaa _ _) ?_|refine Bk ?_|refine Ba rfl ?_|refine Ba ⟨by kernel_rfl,by kernel_rfl⟩ ?_|refine Bj ?_|refine Bh ?_|refine Bi ?_|refine Bc (qle _ _ _ _ Q8H) ?_)|fail)
 all_goals rfl
theorem qgo (x y:Int) (h:Hp)  : qaf prog 55 [.agg #[xc x,xc y]] h (.bool (decide (qax 4194304 x y))) [] []:=
 qai Q8L Q90 (call55 _) (qwa x y )
theorem q72 (a b:Int) (ha:a.natAbs<=9223372036854775807) (hbb:b.natAbs<=9223372036854775807) (w:World):xa 99 #[xc a,xc b] w (wz (a*b)):=by
 have h1:=jfp ha hbb;refine qac (G:=tys) w tysOK mixed func99 Q8I Q8K Q8J ?_;repeat' (refine Bb ?_;first|with_reducible (first|refine Ba Q8H ?_|refine Ba (qab _ _ _) ?_|refine Ba (qaa _ _) ?_|refine Bk ?_|refine Ba rfl ?_|refine Ba ⟨by kernel_rfl,by kernel_rfl⟩ ?_|refine Bj ?_|refine Bh ?_|refine Bi ?_|refine Bc (jev _ _ Q8G Q8G) ?_|refine Bc (jdu _ _ _ (zb Q8G) (zb Q8G) (zt (xF h1 Q8H))) ?_)|fail)
 all_goals rfl
theorem q5z (a b:Int) (h:Hp) (ha:a.natAbs<=9223372036854775807) (hbb:b.natAbs<=9223372036854775807):qaf prog 99 [xc a,xc b] h (wz (a*b)) [] []:=
 qai Q8L Q90 (call99 _) (q72 a b ha hbb)
theorem ja8 (a b d:Int) (ha:a.natAbs<=18446744073709551616) (hbb:b.natAbs<=18446744073709551616) (hd:d.natAbs<=18446744073709551616) (w:World):xa 101 #[wz a,wz b,wz d] w (wz (a*d-b*b)):=by
 have h1:=jfp ha hd;have h2:=jfp hbb hbb;refine qac (G:=tys) w tysOK mixed func101 Q8I Q8K Q8J ?_;repeat' (refine Bb ?_;first|with_reducible (first|refine Ba Q8H ?_|refine Ba (qab _ _ _) ?_|refine Ba (qaa _ _) ?_|refine Bk ?_|refine Ba rfl ?_|refine Ba ⟨by kernel_rfl,by kernel_rfl⟩ ?_|refine Bj ?_|refine Bh ?_|refine Bi ?_|refine Bc (jdu _ _ _ (zb Q8G) (zb Q8G) (zt (xF Q92 Q8H))) ?_|refine Bc (jeg _ _ _ (zt (xF h1 Q8H)) (zt (xF h2 Q8H)) (zt Q8G)) ?_)|fail)
 all_goals rfl
theorem jlk (a b d:Int) (h:Hp) (ha:a.natAbs<=18446744073709551616) (hbb:b.natAbs<=18446744073709551616) (hd:d.natAbs<=18446744073709551616):qaf prog 101 [wz a,wz b,wz d] h (wz (a*d-b*b)) [] []:=
 qai Q8L Q90 (call101 _) (ja8 a b d ha hbb hd)
theorem ja9 (a b d:Int) (ha:a.natAbs<=18446744073709551616) (hbb:b.natAbs<=18446744073709551616) (hd:d.natAbs<=18446744073709551616) (w:World):xa 100 #[wz a,wz b,wz d] w (.bool (decide (jhm a b d))):=by
 have h1:=jfp ha hd;have h2:=jfp hbb hbb;have s1:=qjk a;have s2:=qjk d;have s3:=qjk (a*d-b*b);refine qac (G:=tys) w tysOK mixed func100 Q8I Q8K Q8J ?_;repeat' (refine Bb ?_;first|with_reducible (first|refine Ba Q8H ?_|refine Ba (qab _ _ _) ?_|refine Ba (qaa _ _) ?_|refine Bk ?_|refine Ba rfl ?_|refine Ba ⟨by kernel_rfl,by kernel_rfl⟩ ?_|refine Bj ?_|refine Bh ?_|refine Bi ?_|refine Bc (jlk _ _ _ _ ha hbb hd) ?_|refine Bc (jeh _ _ (zt Q8G)) ?_)|with_reducible refine Bp (fun hb=>?_) (fun hb=>?_)|fail)
 all_goals
  refine jfk ?_
  simp only[xh,xk,xJ,false_iff,true_iff,iff_true,iff_false,reduceCtorEq,yq,xK,yr,yb] at *
  try simp only[qax,jhm,jed] at *
  omega
theorem jnq (a b d:Int) (h:Hp) (ha:a.natAbs<=18446744073709551616) (hbb:b.natAbs<=18446744073709551616) (hd:d.natAbs<=18446744073709551616):qaf prog 100 [wz a,wz b,wz d] h (.bool (decide (jhm a b d))) [] []:=
 qai Q8L Q90 (call100 _) (ja9 a b d ha hbb hd)
theorem jnr (a b d:Int) (ha:a.natAbs<=9223372036854775807) (hbb:b.natAbs<=9223372036854775807) (hd:d.natAbs<=9223372036854775807) (w:World):xa 66 #[.agg #[xc a,xc b,xc d]] w (wz (a*d-b*b)):=by
 refine qac (G:=tys) w tysOK mixed func66 Q8I Q8K Q8J ?_;repeat' (refine Bb ?_;first|with_reducible (first|refine Ba Q8H ?_|refine Ba (qab _ _ _) ?_|refine Ba (qaa _ _) ?_|refine Bk ?_|refine Ba rfl ?_|refine Ba ⟨by kernel_rfl,by kernel_rfl⟩ ?_|refine Bj ?_|refine Bh ?_|refine Bi ?_|refine Bc (jev _ _ Q8G Q8G) ?_|refine Bc (jlk _ _ _ _ Q8G Q8G Q8G) ?_)|fail)
 all_goals rfl
theorem jpo (a b d:Int) (h:Hp) (ha:a.natAbs<=9223372036854775807) (hbb:b.natAbs<=9223372036854775807) (hd:d.natAbs<=9223372036854775807):qaf prog 66 [.agg #[xc a,xc b,xc d]] h (wz (a*d-b*b)) [] []:=
 qai Q8L Q90 (call66 _) (jnr a b d ha hbb hd)
theorem jba (n x y:Int) (hn:n.natAbs<=140737488355328) (hx:x.natAbs<=2147483648) (hy:y.natAbs<=2147483648) (w:World):xa 96 #[xc n,xc x,xc y] w (wz (n-x*y)):=by
 have h1:=jfp hx hy;refine qac (G:=tys) w tysOK mixed func96 Q8I Q8K Q8J ?_;repeat' (refine Bb ?_;first|with_reducible (first|refine Ba Q8H ?_|refine Ba (qab _ _ _) ?_|refine Ba (qaa _ _) ?_|refine Bk ?_|refine Ba rfl ?_|refine Ba ⟨by kernel_rfl,by kernel_rfl⟩ ?_|refine Bj ?_|refine Bh ?_|refine Bi ?_|refine Bc (jev _ _ Q8G Q8G) ?_|refine Bc (q5z _ _ _ Q8G Q8G) ?_|refine Bc (jeg _ _ _ (zt Q8G) (zt (xF h1 Q8H)) (zt Q8G)) ?_)|fail)
 all_goals rfl
theorem jbb (n x y:Int) (h:Hp) (hn:n.natAbs<=140737488355328) (hx:x.natAbs<=2147483648) (hy:y.natAbs<=2147483648):qaf prog 96 [xc n,xc x,xc y] h (wz (n-x*y)) [] []:=
 qai Q8L Q90 (call96 _) (jba n x y hn hx hy)
theorem q73 (a b d x y:Int) (ha:a.natAbs<=140737488355328) (hbb:b.natAbs<=140737488355328) (hd:d.natAbs<=140737488355328) (hx:x.natAbs<=2147483648) (hy:y.natAbs<=2147483648) (w:World):xa 63 #[.agg #[xc a,xc b,xc d],.agg #[xc x,xc y]] w (.bool (decide (qfq a b d x y))):=by
 have h1:=jfp hx hx;have h2:=jfp hx hy;have h3:=jfp hy hy;refine qac (G:=tys) w tysOK mixed func63 Q8I Q8K Q8J ?_;repeat' (refine Bb ?_;first|with_reducible (first|refine Ba Q8H ?_|refine Ba (qab _ _ _) ?_|refine Ba (qaa _ _) ?_|refine Bk ?_|refine Ba rfl ?_|refine Ba ⟨by kernel_rfl,by kernel_rfl⟩ ?_|refine Bj ?_|refine Bh ?_|refine Bi ?_|refine Bc (jbb _ _ _ _ Q92 Q92 Q92) ?_|refine Bc (jnq _ _ _ _ Q8G Q8G Q8G) ?_)|fail)
 all_goals rfl
theorem jbc (a b d x y:Int) (h:Hp) (ha:a.natAbs<=140737488355328) (hbb:b.natAbs<=140737488355328) (hd:d.natAbs<=140737488355328) (hx:x.natAbs<=2147483648) (hy:y.natAbs<=2147483648):qaf prog 63 [.agg #[xc a,xc b,xc d],.agg #[xc x,xc y]] h (.bool (decide (qfq a b d x y))) [] []:=
 qai Q8L Q90 (call63 _) (q73 a b d x y ha hbb hd hx hy)
theorem jns (cx cy a b d:Int)  (w:World):xa 24 #[.agg #[xc cx,xc cy,xc a,xc b,xc d]] w (.bool (decide (jed cx cy a b d))):=by
 have s1:=qog (a*d-b*b);refine qac (G:=tys) w tysOK mixed func24 Q8I Q8K Q8J ?_;repeat' (refine Bb ?_;first|with_reducible (first|refine Ba Q8H ?_|refine Ba (qab _ _ _) ?_|refine Ba (qaa _ _) ?_|refine Bk ?_|refine Ba rfl ?_|refine Ba ⟨by kernel_rfl,by kernel_rfl⟩ ?_|refine Bj ?_|refine Bh ?_|refine Bi ?_|refine Bc (qgo _ _ _) ?_|refine Bc (jpo _ _ _ _ Q9q Q9q Q9q) ?_|refine Bc (jeh _ _ (zt (by simp only[xh,xk] at *;have h1:=jfp (a:=a) (b:=d) (m:=70368744177664) (n:=70368744177664) Q8G Q8G;have h2:=jfp (a:=b) (b:=b) (m:=70368744177664) (n:=70368744177664) Q8G Q8G;omega))) ?_)|with_reducible refine Bp (fun hb=>?_) (fun hb=>?_)|fail)
 all_goals
  refine jfk ?_
  simp only[xh,xk,xJ,false_iff,true_iff,iff_true,iff_false,reduceCtorEq,yq,xK,yr,yb] at *
  try simp only[qax,jhm,jed] at *
  omega
theorem jd6 (cx cy a b d:Int) (h:Hp)  : qaf prog 24 [.agg #[xc cx,xc cy,xc a,xc b,xc d]] h (.bool (decide (jed cx cy a b d))) [] []:=
 qai Q8L Q90 (call24 _) (jns cx cy a b d )
theorem jix {cx cy a b d:Int} (h:jed cx cy a b d):(cx.natAbs<=4194304/\cy.natAbs<=4194304)/\a.natAbs<=140737488355328/\b.natAbs<=140737488355328/\d.natAbs<=140737488355328:=by
 unfold jed qax at h;omega
theorem q74 (a b d x y x' y':Int) (h:Hp) (e1:x'=x) (e2:y'=y) (ha:a.natAbs<=140737488355328) (hbb:b.natAbs<=140737488355328) (hd:d.natAbs<=140737488355328) (hx:x.natAbs<=2147483648) (hy:y.natAbs<=2147483648):qaf prog 63 [.agg #[xc a,xc b,xc d],.agg #[xc x',xc y']] h (.bool (decide (qfq a b d x y))) [] []:=by
 subst e1 e2;exact jbc a b d x' y' h ha hbb hd hx hy
theorem jqd (cx cy a b d x y:Int)  (w:World):xa 20 #[.agg #[xc cx,xc cy,xc a,xc b,xc d],.agg #[xc x,xc y]] w (.bool (decide (inP cx cy a b d x y))):=by
 by_cases hm:jed cx cy a b d
 ·by_cases hw:qax 1073741824 x y
  ·obtain⟨⟨c1,c2⟩,m1,m2,m3⟩:=jix hm;have hw1:=hw;unfold qax at hw1;have e1:=jdx (x-cx) Q8G Q8G;have e2:=jdx (y-cy) Q8G Q8G;rw[show decide (inP cx cy a b d x y)=decide (qfq a b d (x-cx) (y-cy)) from decide_eq_decide.2 ⟨fun h=>h.2.2,fun h=>⟨hm,hw,h⟩⟩];refine Q3w ?_;repeat' (refine Bb ?_;first|with_reducible (first|refine Ba Q8H ?_|refine Ba (qab _ _ _) ?_|refine Ba (qaa _ _) ?_|refine Bk ?_|refine Ba rfl ?_|refine Ba ⟨by kernel_rfl,by kernel_rfl⟩ ?_|refine Bj ?_|refine Bh ?_|refine Bi ?_|refine Bc (jd6 _ _ _ _ _ _) ?_|refine Bc (qle _ _ _ _ Q8H) ?_|refine Bc (q74 _ _ _ (x-cx) (y-cy) _ _ _ e1 e2 m1 m2 m3 Q8G Q8G) ?_)|refine Bf (xi Q92) ?_|fail)
   all_goals rfl
  ·rw[xf (fun h:inP cx cy a b d x y=>hw h.2.1)];exact Q1c
 ·rw[xf (fun h:inP cx cy a b d x y=>hm h.1)];exact Q1c
theorem q75 (cx cy a b d:Int)  (w:World):xa 21 #[.agg #[xc cx,xc cy,xc a,xc b,xc d]] w (xc (if jed cx cy a b d then a+d else 0)):=by
 by_cases hm:jed cx cy a b d
 ·obtain⟨_,m1,m2,m3⟩:=jix hm;have e1:=jdx (a+d) Q8G Q8G;rw[if_pos hm];refine Q3x ?_;repeat' (refine Bb ?_;first|refine Q5Z ?_|refine Q5A ?_|fail)
  all_goals (rw[e1])
 ·rw[if_neg hm];refine Q3x ?_;repeat' (refine Bb ?_;first|refine Q5Z ?_|refine Q5A ?_|fail)
  all_goals rfl
theorem qd1 (cx cy a b d:Int) (h:Hp)  : qaf prog 21 [.agg #[xc cx,xc cy,xc a,xc b,xc d]] h (xc (if jed cx cy a b d then a+d else 0)) [] []:=
 qai Q8L Q8U (call21 _) (q75 cx cy a b d )
abbrev trP (cx cy a b d:Int):Int:=if jed cx cy a b d then a+d else 0
theorem jnt (cx cy a b d:Int):(if jed cx cy a b d then a+d else 0)<9223372036854775808:=by
 split
 ·rename_i hm;have:=jix hm;omega
 ·omega
theorem q3h (cx cy a b d:Int)  (w:World):xa 198 #[.agg #[xc cx,xc cy,xc a,xc b,xc d]] w (xc (usq (trP cx cy a b d).toNat:Nat)):=by
 refine qac (G:=tys) w tysOK mixed func198 Q8I Q8L Q8U ?_;repeat' (refine Bb ?_;first|with_reducible (first|refine Ba Q8H ?_|refine Ba (qab _ _ _) ?_|refine Ba (qaa _ _) ?_|refine Bk ?_|refine Ba rfl ?_|refine Ba ⟨by kernel_rfl,by kernel_rfl⟩ ?_|refine Bj ?_|refine Bh ?_|refine Bi ?_|refine Bc (qd1 _ _ _ _ _ _) ?_|refine Bc (jqc _ _ (jnt cx cy a b d)) ?_)|fail)
 all_goals rfl
theorem qsp (cx cy a b d:Int) (h:Hp)  : qaf prog 198 [.agg #[xc cx,xc cy,xc a,xc b,xc d]] h (xc (usq (trP cx cy a b d).toNat:Nat)) [] []:=
 qai Q8L Q8U (call198 _) (q3h cx cy a b d )
theorem qza (r:Int)  (w:World):xa 56 #[xc r] w (.bool (decide (1<=r/\r<=4194304))):=by
 refine qac (G:=tys) w tysOK mixed func56 Q8I Q8K Q8J ?_;exact Q1t
theorem jqe (r:Int) (h:Hp)  : qaf prog 56 [xc r] h (.bool (decide (1<=r/\r<=4194304))) [] []:=
 qai Q8L Q90 (call56 _) (qza r )
theorem jnu (n:Int)  (w:World):xa 243 #[xc n] w (.bool (decide (-2305843009213693952<=n/\n<=2305843009213693952))):=by
 refine qac (G:=tys) w tysOK mixed func243 Q8I Q8K Q8J ?_;exact Q1t
theorem jqf (n:Int) (h:Hp)  : qaf prog 243 [xc n] h (.bool (decide (-2305843009213693952<=n/\n<=2305843009213693952))) [] []:=
 qai Q8L Q90 (call243 _) (jnu n )
def jfx (a b d:Int):Prop:=(-2305843009213693952<=a/\a<=2305843009213693952)/\(-2305843009213693952<=b/\b<=2305843009213693952)/\(-2305843009213693952<=d/\d<=2305843009213693952)
instance (a b d:Int):Decidable (jfx a b d):=by unfold jfx;infer_instance
theorem jbd (a b d:Int)  (w:World):xa 224 #[.agg #[xc a,xc b,xc d]] w (.bool (decide (jfx a b d))):=by
 refine qac (G:=tys) w tysOK mixed func224 Q8I Q8K Q8J ?_;repeat' (refine Bb ?_;first|with_reducible (first|refine Ba Q8H ?_|refine Ba (qab _ _ _) ?_|refine Ba (qaa _ _) ?_|refine Bk ?_|refine Ba rfl ?_|refine Ba ⟨by kernel_rfl,by kernel_rfl⟩ ?_|refine Bj ?_|refine Bh ?_|refine Bi ?_|refine Bc (jqf _ _) ?_)|with_reducible refine Bp (fun hb=>?_) (fun hb=>?_)|fail)
 all_goals
  refine jfk ?_
  simp only[xh,xk,xJ,false_iff,true_iff,iff_true,iff_false,reduceCtorEq,yq,xK,yr,yb] at *
  try simp only[jfx] at *
  omega
theorem jnv (a b d:Int) (h:Hp)  : qaf prog 224 [.agg #[xc a,xc b,xc d]] h (.bool (decide (jfx a b d))) [] []:=
 qai Q8L Q90 (call224 _) (jbd a b d )
def q50 (a b d p q r:Int):Prop:=jfx a b d/\jfx p q r/\jhm (a-p) (b-q) (d-r)
instance (a b d p q r:Int):Decidable (q50 a b d p q r):=by unfold q50;infer_instance
def jel (a b d x y:Int):Int:=(a*(x*x)+d*(y*y))+(b*(x*y)+b*(x*y))
theorem jbe (a b d x y:Int) (ha:a.natAbs<=140737488355328) (hbb:b.natAbs<=140737488355328) (hd:d.natAbs<=140737488355328) (hx:x.natAbs<=16777216) (hy:y.natAbs<=16777216) (w:World):xa 210 #[.agg #[xc a,xc b,xc d],.agg #[xc x,xc y]] w (wz (jel a b d x y)):=by
 have h1:=jfp hx hx;have h2:=jfp hx hy;have h3:=jfp hy hy;have k1:=jfp ha h1;have k2:=jfp hbb h2;have k3:=jfp hd h3;refine qac (G:=tys) w tysOK mixed func210 Q8I Q8K Q8J ?_;repeat' (refine Bb ?_;first|with_reducible (first|refine Ba Q8H ?_|refine Ba (qab _ _ _) ?_|refine Ba (qaa _ _) ?_|refine Bk ?_|refine Ba rfl ?_|refine Ba ⟨by kernel_rfl,by kernel_rfl⟩ ?_|refine Bj ?_|refine Bh ?_|refine Bi ?_|refine Bc (jev _ _ Q8G Q8G) ?_|refine Bc (q5z _ _ _ Q8G Q8G) ?_|refine Bc (jdu _ _ _ (zb Q8G) (zb (xF Q92 Q8H)) (zt (xF Q92 Q8H))) ?_|refine Bc (jgt _ _ _ (zt Q8G) (zt Q8G) (zt Q8G)) ?_)|fail)
 all_goals rfl
theorem jll (a b d x y:Int) (h:Hp) (ha:a.natAbs<=140737488355328) (hbb:b.natAbs<=140737488355328) (hd:d.natAbs<=140737488355328) (hx:x.natAbs<=16777216) (hy:y.natAbs<=16777216):qaf prog 210 [.agg #[xc a,xc b,xc d],.agg #[xc x,xc y]] h (wz (jel a b d x y)) [] []:=
 qai Q8L Q90 (call210 _) (jbe a b d x y ha hbb hd hx hy)
theorem q76 {a b d x y:Int} (ha:1<=a) (hdet:0<=a*d-b*b):0<=jel a b d x y:=by
 have h1:0<=(a*x+b*y)*(a*x+b*y):=by rcases Int.le_total 0 (a*x+b*y) with h|h;exact xy h h;exact Int.mul_nonneg_of_nonpos_of_nonpos h h
 have h2:0<=(a*d-b*b)*(y*y):=xy hdet (by rcases Int.le_total 0 y with h|h;exact xy h h;exact Int.mul_nonneg_of_nonpos_of_nonpos h h);have e:a*jel a b d x y=(a*x+b*y)*(a*x+b*y)+(a*d-b*b)*(y*y):=by unfold jel;grind
 refine Int.not_lt.1 fun h=>?_
 have:=Int.mul_neg_of_pos_of_neg (by omega:0<a) h;omega
theorem jbf {a b d x y:Int} (ha:a.natAbs<=140737488355328) (hbb:b.natAbs<=140737488355328) (hd:d.natAbs<=140737488355328) (hx:x.natAbs<=16777216) (hy:y.natAbs<=16777216):(jel a b d x y).natAbs<=158456325028528675187087900672:=by
 have h1:=jfp hx hx;have h2:=jfp hx hy;have h3:=jfp hy hy;have k1:=jfp ha h1;have k2:=jfp hbb h2;have k3:=jfp hd h3;unfold jel;omega
def alongN (a b d x y:Int):Nat:=usq (jel a b d x y).toNat
theorem q3i (cx cy a b d x y:Int) (hm:jed cx cy a b d) (hw:qax 16777216 x y) (w:World):xa 217 #[.agg #[xc cx,xc cy,xc a,xc b,xc d],.agg #[xc x,xc y]] w (.tuple #[xc (alongN a b d x y:Nat),xc 0]):=by
 obtain⟨_,m1,m2,m3⟩:=jix hm;have hw1:=hw;unfold qax at hw1;have hm1:=hm;unfold jed at hm1;have q1:=q76 (x:=x) (y:=y) hm1.2.1.1 (yd hm1.2.2.2.2);have q2:=jbf (x:=x) (y:=y) m1 m2 m3 Q8G Q8G;refine qac (G:=tys) w tysOK mixed func217 Q8I Q8L Q8U ?_;repeat' (refine Bb ?_;first|with_reducible (first|refine Ba Q8H ?_|refine Ba (qab _ _ _) ?_|refine Ba (qaa _ _) ?_|refine Bk ?_|refine Ba rfl ?_|refine Ba ⟨by kernel_rfl,by kernel_rfl⟩ ?_|refine Bj ?_|refine Bh ?_|refine Bi ?_|refine Bc (jd6 _ _ _ _ _ _) ?_|refine Bc (qle _ _ _ _ Q8H) ?_|refine Bc (jll _ _ _ _ _ _ m1 m2 m3 Q8G Q8G) ?_|refine Bc (qul _ (jel a b d x y).toNat _ Q8G (by have:=jml;omega)) ?_)|refine Be (by rw[xi Q92];rfl) ?_|fail)
 all_goals rfl
theorem q77 (cx cy a b d x y:Int) (h:Hp) (hm:jed cx cy a b d) (hw:qax 16777216 x y):qaf prog 217 [.agg #[xc cx,xc cy,xc a,xc b,xc d],.agg #[xc x,xc y]] h (.tuple #[xc (alongN a b d x y:Nat),xc 0]) [] []:=
 qai Q8L Q8U (call217 _) (q3i cx cy a b d x y hm hw)
theorem q78 (x y r:Int) (hw:qax 4194304 x y) (hr0:1<=r/\r<=4194304) (w:World):xa 14 #[.agg #[xc x,xc y],xc r] w (.tuple #[.agg #[xc x,xc y,xc (r*r),xc 0,xc (r*r)],xc 0]):=by
 have k1:=jfp (a:=r) (b:=r) (m:=4194304) (n:=4194304) Q8G Q8G;have e1:=jdx (r*r) Q8G Q8G;refine Q3y ?_;repeat' (refine Bb ?_;first|refine Q5R ?_|refine Q5A ?_|fail)
 all_goals (rw[e1])
theorem qjy (x y r:Int) (h:Hp) (hw:qax 4194304 x y) (hr0:1<=r/\r<=4194304):qaf prog 14 [.agg #[xc x,xc y],xc r] h (.tuple #[.agg #[xc x,xc y,xc (r*r),xc 0,xc (r*r)],xc 0]) [] []:=
 qai Q8L Q8U (call14 _) (q78 x y r hw hr0)
theorem q79 (x y r:Int) (hn:¬ (qax 4194304 x y/\(1<=r/\r<=4194304))) (w:World):xa 14 #[.agg #[xc x,xc y],xc r] w (.tuple #[.agg #[xc 0,xc 0,xc 0,xc 0,xc 0],xc 1]):=by
 by_cases hc0:qax 4194304 x y;rotate_left
 ·skip;exact Q1n
 have hc1:¬ (1<=r/\r<=4194304):=fun h=>hn ⟨hc0,h⟩
 exact Q1n
theorem jbg (x y r:Int) (h:Hp) (hn:¬ (qax 4194304 x y/\(1<=r/\r<=4194304))):qaf prog 14 [.agg #[xc x,xc y],xc r] h (.tuple #[.agg #[xc 0,xc 0,xc 0,xc 0,xc 0],xc 1]) [] []:=
 qai Q8L Q8U (call14 _) (q79 x y r hn)
abbrev elV (x y a b d:Int):Value:=.agg #[xc x,xc y,xc a,xc b,xc d]
abbrev jnw (t:Int):Prop:=0<=t/\t<=1000000
def Ent.put (e:Ent) (x y a b d w:Int):Ent:=⟨e.node,e.boot,e.heard,true,x,y,a,b,d,w⟩
theorem jnx (T:Tbl) (n x y a b d w:Int) (hn : -9223372036854775808<=n/\n<=9223372036854775807) (hg:dGet T.E n=none) (i:Nat) (h:Hp) (hi:h[i]?=some (some (tblC T))) :
  qaf prog 119 [xd i,xc n,elV x y a b d,xc w] h (xc 7) [(i,tblC (T))] []:=by
 refine qaq (G:=tys) (qa4 T.lives) (jfw T) [⟨i,tblC T,tblC T,tblC (T)⟩] [] [xd 0,xc n,elV x y a b d,xc w] tysOK mixed func119 Q8I (call119) ⟨hi,xb⟩ ⟨Q6w,xb⟩ Q8N Q6A xb Q7k qas ?_
 intro β hβ
 repeat' (refine Bb ?_;first|refine Q56 ?_|refine Q6j ?_|refine Q5g ?_|refine Bf (show(!false)=true from rfl) ?_|refine Q59 ?_|exact Bg|fail)
theorem jny (T:Tbl) (n x y a b d w:Int) (hn : -9223372036854775808<=n/\n<=9223372036854775807) (e:Ent) (hg:dGet T.E n=some e) (hm:jed x y a b d) (hw:jnw w) (i:Nat) (h:Hp) (hi:h[i]?=some (some (tblC T))) :
  qaf prog 119 [xd i,xc n,elV x y a b d,xc w] h (xc 0) [(i,tblC (⟨T.most,dPut T.E n (e.put x y a b d w),T.lives⟩))] []:=by
 refine qaq (G:=tys) (qa4 T.lives) (jfw T) [⟨i,tblC T,tblC T,tblC (⟨T.most,dPut T.E n (e.put x y a b d w),T.lives⟩)⟩] [] [xd 0,xc n,elV x y a b d,xc w] tysOK mixed func119 Q8I (call119) ⟨hi,xb⟩ ⟨Q6w,xb⟩ Q8N Q6A xb Q7k qas ?_
 intro β hβ
 repeat' (refine Bb ?_;first|refine Q56 ?_|refine Be Qa5 ?_|refine Be (by rw[xi hw];rfl) ?_|refine Q6m ?_|refine Bc (jd6 x y a b d _) ?_|refine Bc (qe1 w _) ?_|refine jf8 entV T.E (e.put x y a b d w) rfl rfl hn rfl underlying128 underlying3 ?_|refine qb5 (⟨T.most,dPut T.E n (e.put x y a b d w),T.lives⟩) β 0 1 2 [] qbv Q6C hβ Q8I Q8I Q8I Q8I Q8I Q8I Q8I Q8I Q8I Q8H (fun k hk=>by cases hk) jgh (qbn rfl) ?_|refine Be (show(!true)=false from rfl) ?_|refine Q59 ?_|exact Bg|fail)
open Go Go.RowKit Sx
variable {p:Nat->Prop}
theorem lt2 (h0:p 0) (h1:p 1):∀ j,j<2->p j:=fun j hj=>by
 match j,hj with
 | 0,_=>exact h0
 | 1,_=>exact h1
theorem lt7 (h0:p 0) (h1:p 1) (h2:p 2) (h3:p 3) (h4:p 4) (h5:p 5) (h6:p 6):∀ j,j<7->p j:=fun j hj=>by
 match j,hj with
 | 0,_=>exact h0
 | 1,_=>exact h1
 | 2,_=>exact h2
 | 3,_=>exact h3
 | 4,_=>exact h4
 | 5,_=>exact h5
 | 6,_=>exact h6
abbrev fiC (m:Int) (v:Bool) (x y a b d:Int):Chunk:=⟨true,7,[(0,7,.agg #[xc m,.bool v,xc x,xc y,xc a,xc b,xc d])]⟩
abbrev twC (n l:Int):Chunk:=⟨true,2,[(0,2,.agg #[xc n,xc l])]⟩
theorem re7 {m:Int} {v:Bool} {x y a b d:Int}:qbb ix (fiC m v x y a b d) (fiC m v x y a b d):=Q8W
theorem re2 {m n:Int}:qbb ix (twC m n) (twC m n):=lt2 (.plain rfl) (.plain rfl)
theorem q51 (m:Int) (K:Nat) (h:Hp) (h0:h[K]?=some none)  : qaf prog 25 [xc m] h (xd K) [(K,fiC (max 2 m) false 0 0 0 0 0)] []:=by
 refine qal (G:=tys) [] [⟨K,4,fiC (max 2 m) false 0 0 0 0 0⟩] [xc m] tysOK mixed func25 Q8I (call25) xb xb xb ⟨⟨h0,rfl,(by show 0<7;decide),by simp⟩,xb⟩ ⟨.plain rfl,xb⟩ ?_;repeat' (refine Bb ?_;first|refine Q5M ?_|refine Ba ⟨⟨xm _,_,rfl,id,nlr _,Q8W⟩,xb⟩ ?_|refine Ba xb ?_|exact Bg|fail)
theorem qhi (m:Int) (v:Bool) (x y a b d:Int) (i:Nat) (h:Hp) (hi:h[i]?=some (some (fiC m v x y a b d)))  : qaf prog 39 [xd i] h (.bool v) [(i,fiC m v x y a b d)] []:=by
 refine qal (G:=tys) [⟨i,_,fiC m v x y a b d,fiC m v x y a b d⟩] [] [xd 0] tysOK mixed func39 Q8I (call39) ⟨hi,xb⟩ ⟨Q76,xb⟩ Q8N xb ⟨.ptr rfl,xb⟩ ?_;exact Q0T
theorem jpp (m:Int) (v:Bool) (x y a b d:Int) (i:Nat) (h:Hp) (hi:h[i]?=some (some (fiC m v x y a b d)))  : qaf prog 41 [xd i] h (elV x y a b d) [(i,fiC m v x y a b d)] []:=by
 refine qal (G:=tys) [⟨i,_,fiC m v x y a b d,fiC m v x y a b d⟩] [] [xd 0] tysOK mixed func41 Q8I (call41) ⟨hi,xb⟩ ⟨Q76,xb⟩ Q8N xb ⟨.ptr rfl,xb⟩ ?_;exact Q0T
theorem qzb (m:Int) (v:Bool) (x y a b d:Int) (x' y' a' b' d':Int) (i:Nat) (h:Hp) (hi:h[i]?=some (some (fiC m v x y a b d))) (hm:¬ jed x' y' a' b' d'):qaf prog 30 [xd i,elV x' y' a' b' d'] h (xc 1) [(i,fiC m v x y a b d)] []:=by
 refine qal (G:=tys) [⟨i,_,fiC m v x y a b d,fiC m v x y a b d⟩] [] [xd 0,elV x' y' a' b' d'] tysOK mixed func30 Q8I (call30) ⟨hi,xb⟩ ⟨Q76,xb⟩ Q8N xb Q6E ?_;repeat' (refine Bb ?_;first|refine Q55 ?_|refine Bc (jd6 x' y' a' b' d' _) ?_|refine Bf (by rw[xf hm];rfl) ?_|refine Q5q ?_|refine Q5G ?_|exact Bg|fail)
theorem q8a (m:Int) (v:Bool) (x y a b d:Int) (x' y' a' b' d':Int) (i:Nat) (h:Hp) (hi:h[i]?=some (some (fiC m v x y a b d))) (hm:jed x' y' a' b' d') (ho:m<a'+d'):qaf prog 30 [xd i,elV x' y' a' b' d'] h (xc 2) [(i,fiC m v x y a b d)] []:=by
 refine qal (G:=tys) [⟨i,_,fiC m v x y a b d,fiC m v x y a b d⟩] [] [xd 0,elV x' y' a' b' d'] tysOK mixed func30 Q8I (call30) ⟨hi,xb⟩ ⟨Q76,xb⟩ Q8N xb Q6E ?_;repeat' (refine Bb ?_;first|refine Q55 ?_|refine Q6n ?_|refine Bf (by rw[if_pos hm,xh];omega) ?_|refine Q5q ?_|refine Q5G ?_|exact Bg|fail)
theorem qzc (m:Int) (v:Bool) (x y a b d:Int) (x' y' a' b' d':Int) (i:Nat) (h:Hp) (hi:h[i]?=some (some (fiC m v x y a b d))) (hm:jed x' y' a' b' d') (ho:¬ m<a'+d'):qaf prog 30 [xd i,elV x' y' a' b' d'] h (xc 0) [(i,fiC m true x' y' a' b' d')] []:=by
 refine qal (G:=tys) [⟨i,_,fiC m v x y a b d,fiC m true x' y' a' b' d'⟩] [] [xd 0,elV x' y' a' b' d'] tysOK mixed func30 Q8I (call30) ⟨hi,xb⟩ ⟨Q76,xb⟩ Q8N xb Q6E ?_;repeat' (refine Bb ?_;first|refine Q55 ?_|refine Q6n ?_|refine Be (by rw[if_pos hm,xk];omega) ?_|refine Q5q ?_|refine Q5G ?_|exact Bg|fail)
theorem q52 (n:Int) (K:Nat) (h:Hp) (h0:h[K]?=some none)  : qaf prog 27 [xc n] h (xd K) [(K,twC (max 0 (min n 1000)) (max 0 (min n 1000)))] []:=by
 refine qal (G:=tys) [] [⟨K,0,twC (max 0 (min n 1000)) (max 0 (min n 1000))⟩] [xc n] tysOK mixed func27 Q8I (call27) xb xb xb ⟨⟨h0,rfl,(by show 0<2;decide),by simp⟩,xb⟩ ⟨.plain rfl,xb⟩ ?_;exact Q1P
theorem qzd (n l:Int) (i:Nat) (h:Hp) (hi:h[i]?=some (some (twC n l)))  : qaf prog 36 [xd i] h (.tuple #[]) [(i,twC n n)] []:=by
 refine qal (G:=tys) [⟨i,_,twC n l,twC n n⟩] [] [xd 0] tysOK mixed func36 Q8I (call36) ⟨hi,xb⟩ ⟨Q77,xb⟩ Q8N xb ⟨.ptr rfl,xb⟩ ?_;exact Q1U
theorem qze (n l:Int) (i:Nat) (h:Hp) (hi:h[i]?=some (some (twC n l)))  : qaf prog 105 [xd i] h (xc l) [(i,twC n l)] []:=by
 refine qal (G:=tys) [⟨i,_,twC n l,twC n l⟩] [] [xd 0] tysOK mixed func105 Q8I (call105) ⟨hi,xb⟩ ⟨Q77,xb⟩ Q8N xb ⟨.ptr rfl,xb⟩ ?_;exact Q1U
theorem q3j (n l:Int) (i:Nat) (h:Hp) (hi:h[i]?=some (some (twC n l))) (hl:l=0):qaf prog 69 [xd i] h (.bool false) [(i,twC n l)] []:=by
 refine qal (G:=tys) [⟨i,_,twC n l,twC n l⟩] [] [xd 0] tysOK mixed func69 Q8I (call69) ⟨hi,xb⟩ ⟨Q77,xb⟩ Q8N xb ⟨.ptr rfl,xb⟩ ?_;repeat' (refine Bb ?_;first|refine Q55 ?_|refine Bc (qze n l 0 _ Q8I) ?_|refine Bf (by rw[hl];rfl) ?_|refine Q5q ?_|refine Q5W ?_|exact Bg|fail)
theorem qdv (n l:Int) (i:Nat) (h:Hp) (hi:h[i]?=some (some (twC n l))) (hl:l≠0) (hb : -9223372036854775808<l/\l<=9223372036854775807):qaf prog 69 [xd i] h (.bool true) [(i,twC n (l-1))] []:=by
 have hw:=jdx (l-1) Q8G Q8G;rw[<-hw];refine qal (G:=tys) [⟨i,_,twC n l,twC n (IntKind.i64.wrap (l-1))⟩] [] [xd 0] tysOK mixed func69 Q8I (call69) ⟨hi,xb⟩ ⟨Q77,xb⟩ Q8N xb ⟨.ptr rfl,xb⟩ ?_;repeat' (refine Bb ?_;first|refine Q55 ?_|refine Bc (qze n l 0 _ Q8I) ?_|refine Be Q99 ?_|refine Q5q ?_|refine Q5W ?_|exact Bg|fail)
theorem q53 (e:Int) (K:Nat) (h:Hp) (h0:h[K]?=some none)  : qaf prog 28 [xc e] h (xd K) [(K,twC (max 1 (min e 1000000)) 0)] []:=by
 refine qal (G:=tys) [] [⟨K,8,twC (max 1 (min e 1000000)) 0⟩] [xc e] tysOK mixed func28 Q8I (call28) xb xb xb ⟨⟨h0,rfl,(by show 0<2;decide),by simp⟩,xb⟩ ⟨.plain rfl,xb⟩ ?_;exact Q1P
theorem qlf (e x n:Int) (i:Nat) (h:Hp) (hi:h[i]?=some (some (twC e x))) (hd:¬ n<x/\¬ 1000000<n) (hb : -9223372036854775808<=n+e/\n+e<=9223372036854775807):qaf prog 38 [xd i,xc n] h (.bool true) [(i,twC e (n+e))] []:=by
 have hw:=jdx (n+e) Q8G Q8G;rw[<-hw];refine qal (G:=tys) [⟨i,_,twC e x,twC e (IntKind.i64.wrap (n+e))⟩] [] [xd 0,xc n] tysOK mixed func38 Q8I (call38) ⟨hi,xb⟩ ⟨Q77,xb⟩ Q8N xb Q6E ?_;repeat' (refine Bb ?_;first|refine Q55 ?_|refine Q61 ?_|refine Q5q ?_|refine Q5W ?_|exact Bg|fail)
end Go.Proofs.YtfkngpmgcimdbaaGreat
