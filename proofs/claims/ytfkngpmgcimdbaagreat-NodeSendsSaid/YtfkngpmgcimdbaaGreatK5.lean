/-
  The walk of bits.Div64.
-/
import Derived.IntWalk
import Derived.Test.YtfkngpmgcimdbaaGreatK4
set_option linter.unusedVariables false
set_option linter.unusedSimpArgs false
set_option maxRecDepth 100000
set_option maxHeartbeats 20000000
theorem Go.Proofs.yz:type_of% @Nat.mul_le_mul:=@Nat.mul_le_mul
theorem Go.Proofs.y4:type_of% @Nat.mul_lt_mul_of_pos_right:=@Nat.mul_lt_mul_of_pos_right
theorem Go.Proofs.zM:type_of% @Nat.add_sub_cancel_left:=@Nat.add_sub_cancel_left
theorem Go.Proofs.zx:type_of% @Nat.mul_lt_mul'':=@Nat.mul_lt_mul''
theorem Go.Proofs.y5:type_of% @Int.natAbs_mul:=@Int.natAbs_mul
theorem Go.Proofs.yP:type_of% @Int.natAbs_neg:=@Int.natAbs_neg
theorem Go.Proofs.zN:type_of% @Bool.not_eq_false':=@Bool.not_eq_false'
theorem Go.Proofs.zF:type_of% @Int.fdiv_eq_ediv_of_nonneg:=@Int.fdiv_eq_ediv_of_nonneg
theorem Go.Proofs.y7:type_of% @Int.natAbs_natCast:=@Int.natAbs_natCast
theorem Go.Proofs.yi:type_of% @Int.mul_nonneg:=@Int.mul_nonneg
open Go.Proofs.Tryz
namespace Go.Proofs
section
variable{Z Y:Prop}
theorem Q00(h:Z:=by
 have G:=Knuth.first (u:=v) (d:=d0) y1a y1b y0h d0h QaM;have hq1:=G.le;have hq2:=G.sum;have hr1:=xr v (show 0<y1 by omega);have f8:(v:Int).tdiv y1=((v / y1:Nat):Int):=rfl;have f8':(v:Int) / y1=((v / y1:Nat):Int):=rfl;generalize v / y1=q0 at *;generalize v%y1=r0 at *;have hqy:((q0*y1:Nat):Int)=(q0:Int)*(y1:Int):=yn _ _;have f9:IntKind.u64.wrap ((q0:Int)*(y1:Int))=((q0*y1:Nat):Int):=by rw[xn,<-hqy];omega
 have f10:IntKind.u64.wrap ((v:Int)-((q0*y1:Nat):Int))=(r0:Int):=by rw[xn];omega
 have f11:IntKind.u64.wrap (q0:Int)=(q0:Int):=by rw[xn];simp only[Knuth.h] at hq1;omega
 generalize hqq:q0*y1=qy at *;clear hqy hqq hq2
 go_wp2_with fail
 clear f8 f8' f9 f10 f11 a1 a2 a3 a4 e1 e2 e3 e5;have hr2':r0<4294967296:=by omega
 have HG':=Lib.hid G;clear G hq1 hr1 HG hr2 HH HS;have hr2:=hr2';have HG:=HG';clear hr2' HG'
 go_loopw [16,18] (λa b wr=>wr=w/\∃q r:Nat,b=.int .u64 q/\a=.int .u64 r/\r<4294967296/\Hid (Knuth.Guess y1 y0 v d0 q r)) (λa b _=>(intOf b).toNat)
 case atStart=>exact⟨rfl,_,_,rfl,rfl,hr2,HG⟩
 case round=>
  clear HG hr2
  obtain⟨e0,q,r,rfl,rfl,hr2,HG⟩:=hrel
  have e0':=e0.symm
  clear e0
  subst e0'
  have hu':v<y1*Knuth.h+y0:=by have:=HE.out.1;show v<y1*4294967296+y0;omega
  have hq1:q<=4294967297:=HG.out.le
  obtain⟨m,hm⟩:∃m:Nat,q*y0=m:=⟨_,rfl⟩
  have hm1:m<=4294967297*4294967295:=by rw[<-hm];exact yz hq1 Q9R
  have e1:IntKind.u64.wrap ((q:Int)*(y0:Int))=(m:Int):=by
   rw[<-yn,hm,xn];omega
  obtain⟨k0,hk0⟩:∃k:Nat,4294967296*r=k:=⟨_,rfl⟩
  have e2:IntKind.u64.wrap (4294967296*(r:Int))=(k0:Int):=by rw[xn];omega
  obtain⟨k,hk⟩:∃k:Nat,k0+d0=k:=⟨_,rfl⟩
  have e3:IntKind.u64.wrap ((k0:Int)+(d0:Int))=(k:Int):=by rw[xn];omega
  have hkk:Knuth.h*r+d0=k:=by simp only[Knuth.h];omega
  have hdn:Knuth.h<=q\/k<m->0<q/\Knuth.Guess y1 y0 v d0 (q-1) (r+y1):=λht=>Knuth.down d0h hu' HG.out (by rw[hkk,hm];exact ht)
  have hst:q<Knuth.h->m<=k->q=(v*Knuth.h+d0) / (y1*Knuth.h+y0):=λh1 h2=>Knuth.stop d0h hu' HG.out h1 (by rw[hkk,hm];exact h2)
  obtain⟨r',hr'⟩:∃r',r+y1=r':=⟨_,rfl⟩
  have e5:IntKind.u64.wrap ((r:Int)+(y1:Int))=(r':Int):=by rw[xn];omega
  have hr3:r'<18446744073709551616:=by omega
  rw[hr'] at hdn
  have HH:=Lib.hid hdn
  have HS:=Lib.hid hst
  have hq64:(q:Int)<18446744073709551616:=by omega
  clear hm hk0 hk hkk hdn hst hm1 hr'
  by_cases hA:4294967296<=q
  .have HT:Hid (Knuth.h<=q\/k<m):=.inl hA;have t1:decide ((q:Int)>=4294967296)=true:=xg Q9R;have t1':(4294967296:Int)<=(q:Int):=by omega
   clear hA;exact Q11
  .by_cases hB:k<m
   .have HT:Hid (Knuth.h<=q\/k<m):=.inr hB;have t1:¬ (4294967296:Int)<=(q:Int):=by omega
    have t2:(k:Int)<(m:Int):=by omega
    clear hA hB;exact Q11
   .have HF:=Lib.hid (HS.out QaP Q9R);have t1:¬ (4294967296:Int)<=(q:Int):=by omega
    have t2:¬ (k:Int)<(m:Int):=by omega
    clear hA hB hq1;have hdq:(v*4294967296+d0) / Y=q:=by rw[HE.out.1];exact HF.out.symm
    have hq0:q<4294967296:=by rw[<-hdq,HE.out.1];exact Knuth.digit_lt (y1:=y1) (y0:=y0) d0h QaM
    have bE:=xz (v*4294967296+d0) Y;have bQ:(v*4294967296+d0) / Y=q:=hdq;rw[bQ] at bE;have bL:=xr (v*4294967296+d0) (show 0<Y by omega);obtain⟨R,RE⟩:∃z,(v*4294967296+d0)%Y=z:=⟨_,rfl⟩;rw[RE] at bE bL;obtain⟨bC,bCE⟩:∃c,q*Y%18446744073709551616=c:=⟨_,rfl⟩;have b3:IntKind.u64.wrap ((q:Int)*(Y:Int))=(bC:Int):=by rw[<-yn,xn];omega
    rw[xk Y] at bE;obtain⟨bA,bAE⟩:∃c,v*4294967296%18446744073709551616=c:=⟨_,rfl⟩;have b1:IntKind.u64.wrap ((v:Int)*4294967296)=(bA:Int):=by rw[xn];omega
    obtain⟨bB,bBE⟩:∃c,(bA+d0)%18446744073709551616=c:=⟨_,rfl⟩;have b2:IntKind.u64.wrap ((bA:Int)+(d0:Int))=(bB:Int):=by rw[xn];omega
    have b4:IntKind.u64.wrap ((bB:Int)-(bC:Int))=(R:Int):=by
     rw[xn];generalize q*Y=P at *;omega
    have HR0':=Lib.hid RE;clear bE bCE bAE bBE RE;obtain⟨Q1,hQ1⟩:∃c:Nat,qa*4294967296=c:=⟨_,rfl⟩;have c1:IntKind.u64.wrap ((qa:Int)*4294967296)=(Q1:Int):=by rw[xn];omega
    obtain⟨Q,hQ⟩:∃c:Nat,Q1+q=c:=⟨_,rfl⟩;have c2:IntKind.u64.wrap ((Q1:Int)+(q:Int))=(Q:Int):=by rw[xn];omega
    have HR:Hid (Q=d64q hi lo y/\R / 2^s=d64r hi lo y):=by
     show Q=(hi*18446744073709551616+lo) / y/\R / 2^s=(hi*18446744073709551616+lo)%y;have e2:=Knuth.two u d1 d0 Y Q9R;have el:=HE.out.2;have eN:u*18446744073709551616+l=u*Knuth.h*Knuth.h+d1*Knuth.h+d0:=Knuth.join u l d1 d0 el;rw[<-eN] at e2;rw[<-hbk.1,<-hbk.2,e2.1,e2.2];have x1:(u*Knuth.h+d1) / Y=qa:=HD1.out;have x2:(u*Knuth.h+d1)%Y=v:=Hv.out;have x3:(v*Knuth.h+d0) / Y=q:=hdq;have x4:(v*Knuth.h+d0)%Y=R:=HR0'.out;rw[x1,x2,x3,x4];refine⟨?_,rfl⟩;show Q=qa*4294967296+q;rw[<-hQ,<-hQ1]
    exact Q3s):Z:=h
theorem Q0r(h:Z:=by
 intro x hx;obtain⟨hx0,hx1,hx2⟩:=hx;have hng:=qqv v x hx0;have hqx:v / x<=v:=yO _ _;have hsum:x+v / x<Bs^16:=xE (qso (by have:=jng;have:=jql;omega)) qbr;have hy16:(x+v / x) / 2<Bs^16:=xQ (yO _ _) hsum;have hx16:x<Bs^16:=xQ (Nat.le_add_right _ _) hsum;by_cases hge:x<=(x+v / x) / 2
 .have he:=qm3 v x hx0 hx2 hge;repeat' (refine Ba ?_;first|refine Q5P ?_|refine Q70 ?_|refine Bg Qb1 ?_|fail)
  all_goals (rw[he];rfl)
 .repeat' (refine Ba ?_;first|refine Q5P ?_|refine Q70 ?_|refine Bf QaX ?_|fail)
  refine Ba ?_;refine N.next ((x+v / x) / 2) ⟨⟨by omega,by omega,hng⟩,by omega⟩ ?_;repeat (refine Ba ?_;first|exact Be|refine Q5W ?_|refine Q6a ?_|with_reducible (first|refine Bc (qhh (qi1 _ _)) ?_|refine Bc (qhh (qoi _ _ _)) ?_|refine Bc (qhi (qcz _ _) (qi1 _ _)) ?_|refine Bc (qhi (qh6 _ _ _) (qoi _ _ _)) ?_)|refine Bc True.intro ?_|refine Bc (show ji8 _ _=true from rfl) ?_|refine Bc (qhh Q9S) ?_|refine Bc (qhi rfl Q9S) ?_)):Z:=h
theorem Q0D(h:Z:=by exact Q3N):Z:=h
theorem Q0X(h:Z:=by ·exact Q43):Z:=h
theorem Q11(h:Z:=by
 obtain⟨h0q,hG2⟩:=HH.out (HT.out);obtain⟨q',hq'⟩:∃q',q-1=q':=⟨_,rfl⟩;rw[hq'] at hG2;have HG2:=Lib.hid hG2;have e4:IntKind.u64.wrap ((q:Int)-1)=(q':Int):=by rw[xn];omega
 have HQ:=Lib.hid (show q=q'+1 by omega);have hq2:q'<=4294967296:=by omega
 clear hG2 hq' h0q hq1;by_cases hbr:(4294967296:Int)<=(r':Int)
 .have HF:=Lib.hid (Knuth.stop' y0h d0h hu' HG2.out hq2 QaP);clear hq2;have hdq:(v*4294967296+d0) / Y=q':=by rw[HE.out.1];exact HF.out.symm
  have hq0:q'<4294967296:=by rw[<-hdq,HE.out.1];exact Knuth.digit_lt (y1:=y1) (y0:=y0) d0h QaM
  have bE:=xz (v*4294967296+d0) Y;have bQ:(v*4294967296+d0) / Y=q':=hdq;rw[bQ] at bE;have bL:=xr (v*4294967296+d0) (show 0<Y by omega);obtain⟨R,RE⟩:∃z,(v*4294967296+d0)%Y=z:=⟨_,rfl⟩;rw[RE] at bE bL;obtain⟨bC,bCE⟩:∃c,q'*Y%18446744073709551616=c:=⟨_,rfl⟩;have b3:IntKind.u64.wrap ((q':Int)*(Y:Int))=(bC:Int):=by rw[<-yn,xn];omega
  rw[xk Y] at bE;obtain⟨bA,bAE⟩:∃c,v*4294967296%18446744073709551616=c:=⟨_,rfl⟩;have b1:IntKind.u64.wrap ((v:Int)*4294967296)=(bA:Int):=by rw[xn];omega
  obtain⟨bB,bBE⟩:∃c,(bA+d0)%18446744073709551616=c:=⟨_,rfl⟩;have b2:IntKind.u64.wrap ((bA:Int)+(d0:Int))=(bB:Int):=by rw[xn];omega
  have b4:IntKind.u64.wrap ((bB:Int)-(bC:Int))=(R:Int):=by
   rw[xn];generalize q'*Y=P at *;omega
  have HR0':=Lib.hid RE;clear bE bCE bAE bBE RE;obtain⟨Q1,hQ1⟩:∃c:Nat,qa*4294967296=c:=⟨_,rfl⟩;have c1:IntKind.u64.wrap ((qa:Int)*4294967296)=(Q1:Int):=by rw[xn];omega
  obtain⟨Q,hQ⟩:∃c:Nat,Q1+q'=c:=⟨_,rfl⟩;have c2:IntKind.u64.wrap ((Q1:Int)+(q':Int))=(Q:Int):=by rw[xn];omega
  have HR:Hid (Q=d64q hi lo y/\R / 2^s=d64r hi lo y):=by
   show Q=(hi*18446744073709551616+lo) / y/\R / 2^s=(hi*18446744073709551616+lo)%y;have e2:=Knuth.two u d1 d0 Y Q9R;have el:=HE.out.2;have eN:u*18446744073709551616+l=u*Knuth.h*Knuth.h+d1*Knuth.h+d0:=Knuth.join u l d1 d0 el;rw[<-eN] at e2;rw[<-hbk.1,<-hbk.2,e2.1,e2.2];have x1:(u*Knuth.h+d1) / Y=qa:=HD1.out;have x2:(u*Knuth.h+d1)%Y=v:=Hv.out;have x3:(v*Knuth.h+d0) / Y=q':=hdq;have x4:(v*Knuth.h+d0)%Y=R:=HR0'.out;rw[x1,x2,x3,x4];refine⟨?_,rfl⟩;show Q=qa*4294967296+q';rw[<-hQ,<-hQ1]
  exact Q3s
 .exact Q43):Z:=h
theorem Q15(h:Z:=by
 obtain⟨h0q,hG2⟩:=HH.out (HT.out);obtain⟨q',hq'⟩:∃q',q-1=q':=⟨_,rfl⟩;rw[hq'] at hG2;have HG2:=Lib.hid hG2;have e4:IntKind.u64.wrap ((q:Int)-1)=(q':Int):=by rw[xn];omega
 have HQ:=Lib.hid (show q=q'+1 by omega);have hq2:q'<=4294967296:=by omega
 clear hG2 hq' h0q hq1;by_cases hbr:(4294967296:Int)<=(r':Int)
 .have HF:=Lib.hid (Knuth.stop' y0h d1h hu' HG2.out hq2 QaP);clear hq2;have hdq1:(u*4294967296+d1) / Y=q':=by rw[HE.out.1];exact HF.out.symm
  have hq1h:q'<4294967296:=by rw[<-hdq1,HE.out.1];exact Knuth.digit_lt (y1:=y1) (y0:=y0) d1h hu'
  have HD1:=Lib.hid hdq1;have aE:=xz (u*4294967296+d1) Y;have aQ:(u*4294967296+d1) / Y=q':=hdq1;rw[aQ] at aE;have aL:=xr (u*4294967296+d1) (show 0<Y by omega);obtain⟨v,vE⟩:∃z,(u*4294967296+d1)%Y=z:=⟨_,rfl⟩;rw[vE] at aE aL;obtain⟨aC,aCE⟩:∃c,q'*Y%18446744073709551616=c:=⟨_,rfl⟩;have a3:IntKind.u64.wrap ((q':Int)*(Y:Int))=(aC:Int):=by rw[<-yn,xn];omega
  rw[xk Y] at aE;obtain⟨aA,aAE⟩:∃c,u*4294967296%18446744073709551616=c:=⟨_,rfl⟩;have a1:IntKind.u64.wrap ((u:Int)*4294967296)=(aA:Int):=by rw[xn];omega
  obtain⟨aB,aBE⟩:∃c,(aA+d1)%18446744073709551616=c:=⟨_,rfl⟩;have a2:IntKind.u64.wrap ((aA:Int)+(d1:Int))=(aB:Int):=by rw[xn];omega
  have a4:IntKind.u64.wrap ((aB:Int)-(aC:Int))=(v:Int):=by
   rw[xn];generalize q'*Y=P at *;omega
  have Hv:=Lib.hid vE;clear aE aCE aAE aBE vE;have hvY:v<Y:=aL;clear aQ hdq1 aL HF;obtain⟨qa,rfl⟩:∃c,c=q':=⟨_,rfl⟩;exact Q00
 exact Q0X):Z:=h
theorem Q1b(k:Y)(h:Wr Y->Z:=by
 intro kQ;refine qac (G:=tys) w tysOK mixed func130 Q9S Q9U Q9T ?_;exact kQ.o):Z:=h ⟨k⟩
theorem Q1f(h:Z:=by repeat' (refine Ba ?_;first|refine Q5P ?_|refine Q6q ?_|refine Q69 ?_|exact Be|fail)):Z:=h
theorem Q1q(h:Z:=by
 have hv16:=xE hv qbr;have hu16:=xE hu qbr;refine Q3D ?_;repeat' (refine Ba ?_;first|refine Q5P ?_|refine Bb (jia _ _ _ _ _ _ _ (qcv Q9S) (qcv Q9S) hv16 hu16) ?_|refine Bb (jia _ _ _ _ _ _ _ (qcv Q9S) (qcv Q9S) hu16 hv16) ?_|refine Q66 ?_|fail)
 all_goals rfl):Z:=h
theorem Q1A(h:Z:=by
 refine Q46 ?_;repeat' (refine Ba ?_;first|refine Q5P ?_|with_reducible (first|refine Bb (qgt _ _ _) ?_|refine Bb (jqn _ _) ?_)|refine Q6M ?_|fail)
 all_goals rfl):Z:=h
theorem Q1D(h:Z:=by
 repeat' (refine Ba ?_;first|refine Q5P ?_|refine Q7x ?_|refine Bf QaX ?_|with_reducible refine Bb (cMade _ _ _ (xQ (Nat.sub_le _ _) hu)) ?_|refine Q66 ?_|fail)
 all_goals rfl):Z:=h
theorem Q1E(h:Z:=by
 have hv16:=xE hv qbr;have hu16:=xE hu qbr;refine Q3D ?_;repeat' (refine Ba ?_;first|refine Q5P ?_|refine Q66 ?_|refine Q6c ?_|fail)
 all_goals rfl):Z:=h
theorem Q1F(h:Z:=by
 repeat' (refine Ba ?_;first|refine Q5P ?_|refine Q7x ?_|refine Bg Qb1 ?_|with_reducible refine Bb (cMade _ _ _ (xQ (Nat.sub_le _ _) hv)) ?_|refine Q66 ?_|fail)
 all_goals rfl):Z:=h
theorem Q1K(h:Z:=by
 repeat' (refine Ba ?_;first|refine Q5P ?_|with_reducible refine Bj (λhb=>?_) (λhb=>?_)|fail)
 all_goals
  refine jf7 ?_
  simp only[xh,xm,xG,false_iff,true_iff,iff_true,iff_false,reduceCtorEq,yj,xI,yk,xZ] at *
  try simp only[qa1,jk7,mayP] at *
  omega):Z:=h
theorem Q1X(h:Z:=by
 have hv16:=xE hv qbr;have hu16:=xE hu qbr;refine Q1b ?_;repeat' (refine Ba ?_;first|refine Q5P ?_|refine Bb (jn9 _ _ _ _ _ _ _ (qcv Q9S) (qcv Q9S)) ?_|refine Bf (by rw[qzb _ _ (xE hs qbr)];decide) ?_|with_reducible refine Bb (cMade _ _ _ hs) ?_|refine Q6c ?_|fail)
 all_goals rfl):Z:=h
theorem Q29(h:Z:=by repeat' (refine Ba ?_;first|refine Q5P ?_|refine Q6S ?_|refine Bc (.one (.ptr Q9S)) ?_|refine Bc ⟨⟨xi _,_,rfl,id,nlr _,lt2 (.plain rfl) (.plain rfl)⟩,xb⟩ ?_|refine Bc xb ?_|exact Be|fail)):Z:=h
theorem Q2h(h:Z:=by repeat' (refine Ba ?_;first|refine Q5P ?_|refine Q6q ?_|refine Q6J ?_|exact Be|fail)):Z:=h
theorem Q2I(h:Z:=by
 simp only[Sem.run_bind];rw[show(Op.equal 122 (.agg ⟨limL 16 (dg u)⟩) (.agg #[.int .u64 0,.int .u64 0,.int .u64 0,.int .u64 0,.int .u64 0,.int .u64 0,.int .u64 0,.int .u64 0,.int .u64 0,.int .u64 0,.int .u64 0,.int .u64 0,.int .u64 0,.int .u64 0,.int .u64 0,.int .u64 0])).run prog w=.ok (decide (u=0)) w from he w];rfl):Z:=h
theorem Q3g(h:Z:=by repeat (refine Ba ?_;first|exact Be|refine Q5W ?_|with_reducible refine Bc (ChunkLe.refl _) ?_ )):Z:=h
theorem Q3m(h:Z:=by
 refine Ba ?_;refine N.next (i+1) ⟨by omega,by omega⟩ ?_;exact Q0D):Z:=h
theorem Q3s(h:Z:=by
 clear hQ hQ1 hdq hq0 bQ
 go_wp2_with fail
 exact bodyPost_ret (v:=.tuple #[.int .u64 (Q:Nat),.int .u64 ((R:Int) / 2^s)]) (by simp[results,Tryz.results233]) rfl ⟨by rw[qc4,HR.out.1,HR.out.2],hB⟩):Z:=h
theorem Q3D(k:Y)(h:Wr Y->Z:=by
 intro kQ;refine qac (G:=tys) w tysOK mixed func247 Q9S Q9U Q9T ?_;exact kQ.o):Z:=h ⟨k⟩
theorem Q3N(h:Z:=by repeat (refine Ba ?_;first|exact Be|refine Q5W ?_|refine Q67 ?_)):Z:=h
theorem Q43(h:Z:=by
 clear hq2
 go_wp2_with fail
 go_roundw
 case rel=>exact⟨by first|trivial|rfl,q',r',rfl,rfl,by omega,HG2⟩
 case measure=>have:=HQ.out;simp[intOf];omega):Z:=h
theorem Q45(k:Y)(h:Wr Y->Z:=by
 intro kQ;refine qac (G:=tys) w tysOK mixed func21 Q9S Q9Z Qa6 ?_;exact kQ.o):Z:=h ⟨k⟩
theorem Q46(k:Y)(h:Wr Y->Z:=by
 intro kQ;refine qac (G:=tys) w tysOK mixed func14 Q9S Q9Z Qa6 ?_;exact kQ.o):Z:=h ⟨k⟩
theorem Q5b(h:Z:=by
 have hv16:=xE hv qbr;have hu16:=xE hu qbr;refine Q1b ?_;exact Q1F):Z:=h
theorem Q5c(h:Z:=by
 have hv16:=xE hv qbr;have hu16:=xE hu qbr;refine Q1b ?_;exact Q1D):Z:=h
theorem Q5k(k:Y)(h:Wr Y->Z:=by
 intro kQ;refine Ba ?_;refine Bi (i+j) 1 QaH Q9R ?_;refine Ba ?_;exact kQ.o):Z:=h ⟨k⟩
theorem Q5r(k:Y)(h:Wr Y->Z:=by
 intro kQ;refine Ba ?_;refine Bb (qyw _ _ _ _ Q9R Q9R Q9R Q9R Q9R Q9R) ?_;exact kQ.o):Z:=h ⟨k⟩
theorem Q5P(k:Y)(h:Wr Y->Z:=by intro kQ;(first|with_reducible (first|refine Bc Q9V ?_|refine Bc (qab _ _ _) ?_|refine Bc (qaa _ _) ?_|refine N.eq ?_|refine Bc rfl ?_|refine Bc ⟨by kernel_rfl,by kernel_rfl⟩ ?_|refine N.alt ?_|refine Bx ?_|refine Bz ?_)|fail);exact kQ.o):Z:=h ⟨k⟩
theorem Q5Q(k:Y)(h:Wr Y->Z:=by intro kQ;(first|with_reducible (first|refine Bc (qab _ _ _) ?_|refine Bc (qaa _ _) ?_|refine N.eq ?_|refine Bc rfl ?_|refine Bc ⟨by kernel_rfl,by kernel_rfl⟩ ?_|refine N.alt ?_|refine Bx ?_|refine Bz ?_)|fail);exact kQ.o):Z:=h ⟨k⟩
theorem Q5W(k:Y)(h:Wr Y->Z:=by intro kQ;(first|with_reducible refine Bc rfl ?_|fail);exact kQ.o):Z:=h ⟨k⟩
theorem Q67(k:Y)(h:Wr Y->Z:=by intro kQ;(first|with_reducible refine Bc (ChunkLe.refl _) ?_|refine Bc (qax Qb5) ?_|fail);exact kQ.o):Z:=h ⟨k⟩
theorem Q69(k:Y)(h:Wr Y->Z:=by intro kQ;(first|refine Bc ⟨⟨_,rfl,id,nlr _,Qay⟩,xb⟩ ?_|refine Bc xb ?_|fail);exact kQ.o):Z:=h ⟨k⟩
theorem Q6q(k:Y)(h:Wr Y->Z:=by intro kQ;(first|refine Bc (.plain Q9S) ?_|fail);exact kQ.o):Z:=h ⟨k⟩
theorem Q6J(k:Y)(h:Wr Y->Z:=by intro kQ;(first|refine Bc ⟨⟨_,rfl,id,nlr _,lt2 (.plain rfl) (.plain rfl)⟩,xb⟩ ?_|refine Bc xb ?_|fail);exact kQ.o):Z:=h ⟨k⟩
theorem Q6L(k:Y)(h:Wr Y->Z:=by intro kQ;(first|refine Bf (xf Q9R) ?_|fail);exact kQ.o):Z:=h ⟨k⟩
theorem Q6M(k:Y)(h:Wr Y->Z:=by intro kQ;(first|refine Bf (by rw[xg Qai];rfl) ?_|refine Bg (by rw[xf Qai];rfl) ?_|fail);exact kQ.o):Z:=h ⟨k⟩
theorem Q70(k:Y)(h:Wr Y->Z:=by intro kQ;(first|refine Bb (qjr _ _ _ hv16 hx0 hx1) ?_|refine Bb (jn9 _ _ _ _ _ _ _ (qbs Q9S) (qbs Q9S)) ?_|refine Bb (qum _ _ _ _ Q9S hsum) ?_|refine Bb (jia _ _ _ _ _ _ _ (qbs Q9S) (qbs Q9S) hy16 hx16) ?_|with_reducible refine Bb (cMade _ _ _ (htop _ hx1)) ?_|fail);exact kQ.o):Z:=h ⟨k⟩
theorem Q71(k:Y)(h:Wr Y->Z:=by intro kQ;(first|refine Bi 0 0 Q9V Q9V ?_|fail);exact kQ.o):Z:=h ⟨k⟩
theorem Q74(k:Y)(h:Wr Y->Z:=by intro kQ;(first|with_reducible refine Bb (cOfz _ _ Q9R Q9R) ?_|fail);exact kQ.o):Z:=h ⟨k⟩
theorem Q7v(k:Y)(h:Wr Y->Z:=by intro kQ;(first|refine Bf (by rw[xg hm];rfl) ?_|fail);exact kQ.o):Z:=h ⟨k⟩
theorem Q7x(k:Y)(h:Wr Y->Z:=by intro kQ;(first|refine Bb (jia _ _ _ _ _ _ _ (qcv Q9S) (qcv Q9S) hv16 hu16) ?_|refine Bb (joc _ _ _ _ _ _ _ _ _ _ _ Q9S Q9S Q9R) ?_|fail);exact kQ.o):Z:=h ⟨k⟩
theorem Q8o(h:Z:=by first|exact ⟨λ_=>⟨rfl,nlr _⟩,nlr _,re2⟩|fail):Z:=h
theorem Q8r(h:Z:=by first|exact ⟨.ptr rfl,.ptr rfl,xb⟩|fail):Z:=h
theorem Q8t(h:Z:=by first|exact ⟨λ_=>⟨rfl,nlr _⟩,nlr _,re7⟩|fail):Z:=h
theorem Q8C(h:Z:=by first|exact ⟨.ptr rfl,.plain rfl,.plain rfl,.plain rfl,xb⟩|fail):Z:=h
theorem Q9Z(h:Z:=by first|rfl|(simp only[yx,List.all_nil,qad];rfl)):Z:=h
theorem Qa6(h:Z:=by first|rfl|exact qaj _|(simp only[qam,yx,List.all_nil,qad];rfl)):Z:=h
theorem Qae(h:Z:=by simp[qad]):Z:=h
theorem Qag(h:Z:=by first|rfl|exact qaj _):Z:=h
theorem Qai(h:Z:=by assumption):Z:=h
theorem Qat(h:Z:=by simp only[xh,xm] at *;omega):Z:=h
theorem Qay(h:Z:=by first|(refine lt7 ?_ ?_ ?_ ?_ ?_ ?_ ?_<;>exact .plain rfl)|fail):Z:=h
theorem QaH(h:Z:=by rw[IntWalk.i64_in _ Q9R];omega):Z:=h
theorem QaI(h:Z:=by rw[Bool.true_and];exact decide_eq_decide.2 Q9R):Z:=h
theorem QaM(h:Z:=by have:=HE.out.1;show v<y1*4294967296+y0;omega):Z:=h
theorem QaN(h:Z:=by rw[Bool.false_and,xf Q9R]):Z:=h
theorem QaP(h:Z:=by simp only[Knuth.h];omega):Z:=h
theorem QaS(h:Z:=by simp[qam,qad];rfl):Z:=h
theorem QaX(h:Z:=by rw[xm];unfold cm;split<;>(try split)<;>omega):Z:=h
theorem Qb1(h:Z:=by rw[xh];unfold cm;split<;>(try split)<;>omega):Z:=h
theorem Qb2(h:Z:=by simp[qam,qaf]):Z:=h
theorem Qb5(h:Z:=by rw[IntWalk.i64_in _ Q9R];rfl):Z:=h
theorem Qbb(h:Z:=by have:=jng;omega):Z:=h
end
end Go.Proofs

namespace Go.Proofs.YtfkngpmgcimdbaaGreat
open Go.RowKit
def d64q(hi lo y:Nat):Nat:=(hi*18446744073709551616+lo) / y
def d64r(hi lo y:Nat):Nat:=(hi*18446744073709551616+lo)%y
theorem q50(y:Nat)(hy:y<18446744073709551616)(w:World):Calls prog 234 #[.int .u64 y] w λe w'=>e=.returned (xc (64-(lb y:Int)))/\w=w':=
 (Tryz.bits_LeadingZeros64 y w Q9R Q9R).mono λe w' h=>⟨h.1,h.2.symm⟩
theorem qv9(y:Nat)(h0:0<y)(hy:y<18446744073709551616):∃s:Nat,s<64/\(64:Int)-(lb y:Int)=(s:Int)/\9223372036854775808<=y*2^s/\y*2^s<18446744073709551616:=by
 obtain⟨b1,b2⟩:=qdy 64 y hy;obtain⟨b3,b4⟩:=b2 Q9R;have e:Lib.bitLenAux 64 y=lb y:=rfl;rw[e] at b1 b3 b4;have hl:=jk3 y hy;refine⟨64-lb y,by omega,by omega,?_,?_⟩
 .have:2^(lb y-1)*2^(64-lb y)=9223372036854775808:=by
   rw[<-yf,show lb y-1+(64-lb y)=63 by omega]
  rw[<-this];exact yb _ b3
 .have:2^lb y*2^(64-lb y)=18446744073709551616:=by
   rw[<-yf,show lb y+(64-lb y)=64 by omega]
  rw[<-this];exact y4 b1 (yd Q9V)
theorem qy3(x:Nat)(hx:x<18446744073709551616):bits .and .u64 (x:Int) 4294967295=((x%4294967296:Nat):Int):=by
 have:=(bits_nat .u64 64 Q9V (λn h0 h1=>by rw[xn];omega) x 4294967295 hx Q9V).1;refine this.trans ?_;rw[show(4294967295:Nat)=2^32-1 from rfl,Nat.and_two_pow_sub_one_eq_mod]
theorem q27(hi lo s:Nat)(hs:s<64)(h1:hi*2^s<18446744073709551616)(hlo:lo<18446744073709551616):
  bits .or .u64 (IntKind.u64.wrap ((hi:Int)*2^s)) ((lo:Int) / 2^(64-s))=((hi*2^s+lo / 2^(64-s):Nat):Int):=by
 by_cases h0:0<s
 .rw[jk4 hi lo s h0 hs hlo,xC h1]
 .obtain rfl:s=0:=by omega
  rw[qgr,qc4,qqs _ _ (xr _ Q9V) (xQ (yO _ _) hlo),xC h1];rw[show lo / 2^(64-0)=0 from xM hlo,Nat.or_zero,x7]
theorem quh(hi lo y:Nat)(h0:0<hi)(h1:hi<y)(hlo:lo<18446744073709551616)(hy:y<18446744073709551616)(w:World):
  xa 233 #[.int .u64 hi,.int .u64 lo,.int .u64 y] w (.tuple #[.int .u64 (d64q hi lo y:Nat),.int .u64 (d64r hi lo y:Nat)]):=by
 have hB:Below w.heap.size w w:=Below.refl _ _
 have g1:((y:Int)==0)=false:=by simp;omega
 have g2:¬ (y:Int)<=hi:=by omega
 have g3:((hi:Int)==0)=false:=by simp;omega
 obtain⟨s,hs,hs',hY1,hY2⟩:=qv9 y Q9R hy
 have hp:0<2^s:=yd Q9V
 have hhi:hi*2^s<18446744073709551616:=xE (y4 h1 hp) hY2
 have hW:=Knuth.words hi lo s hs
 have hbk:=Knuth.back (hi*18446744073709551616+lo) y s
 have hN:hi*18446744073709551616+lo<y*18446744073709551616:=by omega
 have hN2:(hi*18446744073709551616+lo)*2^s<y*2^s*18446744073709551616:=by
  rw[zu];exact y4 hN hp
 have f1:IntKind.u64.wrap ((y:Int)*2^s)=((y*2^s:Nat):Int):=by rw[qgr,xC hY2]
 have f4:=q27 hi lo s hs hhi hlo
 have f5:=qgr lo s
 have hl64:lo*2^s%18446744073709551616<18446744073709551616:=xr _ Q9V
 have hlo2:lo / 2^(64-s)<=lo:=yO _ _
 rw[hW] at hbk hN2
 generalize hYY:y*2^s=Y at *
 generalize hu:hi*2^s+lo / 2^(64-s)=u at *
 generalize hl:lo*2^s%18446744073709551616=l at *
 have huY:u<Y:=by omega
 clear hW hN hN2 hYY hu hl hhi hp hlo2
 have f2:(Y:Int) / 4294967296=((Y / 4294967296:Nat):Int):=rfl
 have f3:=qy3 Y hY2
 have f6:(l:Int) / 4294967296=((l / 4294967296:Nat):Int):=rfl
 have f7:=qy3 l hl64
 have eY:=xz Y 4294967296
 have el:=xz l 4294967296
 have y0h:=xr Y (show 0<4294967296 by decide)
 have d0h:=xr l (show 0<4294967296 by decide)
 have y1a:2147483648<=Y / 4294967296:=by omega
 have y1b:Y / 4294967296<4294967296:=by omega
 have d1h:l / 4294967296<4294967296:=by omega
 generalize Y / 4294967296=y1 at *
 generalize Y%4294967296=y0 at *
 generalize l / 4294967296=d1 at *
 generalize l%4294967296=d0 at *
 have HE:=Lib.hid (show Y=y1*4294967296+y0/\l=d1*4294967296+d0 from⟨by omega,by omega⟩)
 clear eY el
 have G:=Knuth.first (u:=u) (d:=d1) y1a y1b y0h d1h (by have:=HE.out.1;show u<y1*4294967296+y0;omega)
 have hq1:=G.le
 have hq2:=G.sum
 have hr1:=xr u (show 0<y1 by omega)
 have f8:(u:Int).tdiv y1=((u / y1:Nat):Int):=rfl
 have f8':(u:Int) / y1=((u / y1:Nat):Int):=rfl
 generalize u / y1=q at *
 generalize u%y1=r at *
 have hqy:((q*y1:Nat):Int)=(q:Int)*(y1:Int):=yn _ _
 have f9:IntKind.u64.wrap ((q:Int)*(y1:Int))=((q*y1:Nat):Int):=by rw[xn,<-hqy];omega
 have f10:IntKind.u64.wrap ((u:Int)-((q*y1:Nat):Int))=(r:Int):=by rw[xn];omega
 have f11:IntKind.u64.wrap (q:Int)=(q:Int):=by rw[xn];simp only[Knuth.h] at hq1;omega
 generalize hqq:q*y1=qy at *
 clear hqy hqq hq2
 go_enter func233,Tryz.ntmps233
 go_wp2_with fail
 refine(q50 y hy _).mono ?_
 rintro e w' ⟨rfl,rfl⟩
 rw[hs']
 clear hs'
 go_wp2_with fail
 clear f1 f2 f3 f4 f5 f6 f7 f8 f8' f9 f10 f11 g1 g2 g3
 have hr2:r<4294967296:=by omega
 have HG:=Lib.hid G
 clear G hq1 hr1
 go_loopw [15,16] (λa b wr=>wr=w/\∃q r:Nat,a=.int .u64 q/\b=.int .u64 r/\r<4294967296/\Hid (Knuth.Guess y1 y0 u d1 q r)) (λa b _=>(intOf a).toNat)
 case atStart=>exact⟨rfl,_,_,rfl,rfl,hr2,HG⟩
 case round=>
  clear HG hr2
  obtain⟨e0,q,r,rfl,rfl,hr2,HG⟩:=hrel
  have e0':=e0.symm
  clear e0
  subst e0'
  have hu':u<y1*Knuth.h+y0:=by have:=HE.out.1;show u<y1*4294967296+y0;omega
  have hq1:q<=4294967297:=HG.out.le
  obtain⟨m,hm⟩:∃m:Nat,q*y0=m:=⟨_,rfl⟩
  have hm1:m<=4294967297*4294967295:=by rw[<-hm];exact yz hq1 Q9R
  have e1:IntKind.u64.wrap ((q:Int)*(y0:Int))=(m:Int):=by
   rw[<-yn,hm,xn];omega
  obtain⟨k0,hk0⟩:∃k:Nat,4294967296*r=k:=⟨_,rfl⟩
  have e2:IntKind.u64.wrap (4294967296*(r:Int))=(k0:Int):=by rw[xn];omega
  obtain⟨k,hk⟩:∃k:Nat,k0+d1=k:=⟨_,rfl⟩
  have e3:IntKind.u64.wrap ((k0:Int)+(d1:Int))=(k:Int):=by rw[xn];omega
  have hkk:Knuth.h*r+d1=k:=by simp only[Knuth.h];omega
  have hdn:Knuth.h<=q\/k<m->0<q/\Knuth.Guess y1 y0 u d1 (q-1) (r+y1):=λht=>Knuth.down d1h hu' HG.out (by rw[hkk,hm];exact ht)
  have hst:q<Knuth.h->m<=k->q=(u*Knuth.h+d1) / (y1*Knuth.h+y0):=λh1 h2=>Knuth.stop d1h hu' HG.out h1 (by rw[hkk,hm];exact h2)
  obtain⟨r',hr'⟩:∃r',r+y1=r':=⟨_,rfl⟩
  have e5:IntKind.u64.wrap ((r:Int)+(y1:Int))=(r':Int):=by rw[xn];omega
  have hr3:r'<18446744073709551616:=by omega
  rw[hr'] at hdn
  have HH:=Lib.hid hdn
  have HS:=Lib.hid hst
  have hq64:(q:Int)<18446744073709551616:=by omega
  clear hm hk0 hk hkk hdn hst hm1 hr'
  by_cases hA:4294967296<=q
  .have HT:Hid (Knuth.h<=q\/k<m):=.inl hA;have t1:decide ((q:Int)>=4294967296)=true:=xg Q9R;have t1':(4294967296:Int)<=(q:Int):=by omega
   clear hA;exact Q15
  .by_cases hB:k<m
   .have HT:Hid (Knuth.h<=q\/k<m):=.inr hB;have t1:¬ (4294967296:Int)<=(q:Int):=by omega
    have t2:(k:Int)<(m:Int):=by omega
    clear hA hB;exact Q15
   .have HF:=Lib.hid (HS.out QaP Q9R);have t1:¬ (4294967296:Int)<=(q:Int):=by omega
    have t2:¬ (k:Int)<(m:Int):=by omega
    clear hA hB hq1;have hdq1:(u*4294967296+d1) / Y=q:=by rw[HE.out.1];exact HF.out.symm
    have hq1h:q<4294967296:=by rw[<-hdq1,HE.out.1];exact Knuth.digit_lt (y1:=y1) (y0:=y0) d1h hu'
    have HD1:=Lib.hid hdq1;have aE:=xz (u*4294967296+d1) Y;have aQ:(u*4294967296+d1) / Y=q:=hdq1;rw[aQ] at aE;have aL:=xr (u*4294967296+d1) (show 0<Y by omega);obtain⟨v,vE⟩:∃z,(u*4294967296+d1)%Y=z:=⟨_,rfl⟩;rw[vE] at aE aL;obtain⟨aC,aCE⟩:∃c,q*Y%18446744073709551616=c:=⟨_,rfl⟩;have a3:IntKind.u64.wrap ((q:Int)*(Y:Int))=(aC:Int):=by rw[<-yn,xn];omega
    rw[xk Y] at aE;obtain⟨aA,aAE⟩:∃c,u*4294967296%18446744073709551616=c:=⟨_,rfl⟩;have a1:IntKind.u64.wrap ((u:Int)*4294967296)=(aA:Int):=by rw[xn];omega
    obtain⟨aB,aBE⟩:∃c,(aA+d1)%18446744073709551616=c:=⟨_,rfl⟩;have a2:IntKind.u64.wrap ((aA:Int)+(d1:Int))=(aB:Int):=by rw[xn];omega
    have a4:IntKind.u64.wrap ((aB:Int)-(aC:Int))=(v:Int):=by
     rw[xn];generalize q*Y=P at *;omega
    have Hv:=Lib.hid vE;clear aE aCE aAE aBE vE;have hvY:v<Y:=aL;clear aQ hdq1 aL HF;obtain⟨qa,rfl⟩:∃c,c=q:=⟨_,rfl⟩;exact Q00
open Go Go.RowKit Sx
theorem qal(neg over:Bool)(v:Nat):qam (.agg ⟨wiL neg over v⟩)=true:=qag neg over v
theorem cMade(neg:Bool)(v:Nat)(h:Hp)(hv:v<Top):qae prog 154 [.bool neg,.agg ⟨limL 16 (dg v)⟩] h (.agg ⟨wiL (neg&&decide (v≠0)) false v⟩) [] []:=
 qai (by simp[qaf];rfl) (qal _ _ _) (call154 _) λw=>by
  have:=q25 neg v hv w;rw[jmf] at this;exact this
theorem cOf(n:Int)(h:Hp)(h0 : -9223372036854775808<=n)(h1:n<9223372036854775808):qae prog 98 [xc n] h (.agg ⟨wiL (decide (n<0)) false n.natAbs⟩) [] []:=
 qai rfl (qal _ _ _) (call98 _) λw=>by
  have:=q7z n h0 h1 w;unfold zi at this;rw[jmf] at this;exact this
variable{n m:Nat}
theorem qm0{o:Bool}{p:Nat}{f:Nat->Nat}(hp:p+m<=n):Reads ⟨o,n,[(0,n,.agg ⟨limL n f⟩)]⟩ p true m (.agg ⟨limL m λk=>f (p+k)⟩):=by
 refine⟨hp,_,rfl,qcz _ _,λk hk=>?_⟩;refine Q3R ?_;simp only[cellIn];rw[qf5 hk,show p+k-0=p+k from rfl,qf5 Q9R]
theorem qm1{ps:Pz}{v:Value}:Writes ⟨true,n,ps⟩ 0 n v ⟨true,n,[(0,n,v)]⟩:=by
 refine⟨rfl,by show 0+n<=n;omega,rfl,λk hk=>?_⟩;have hk:k<n:=hk;show qa9 _ _=_;rw[qan,if_pos Q9R,if_pos Q9R]
def mT(v u i:Nat):Nat:=v%Bs^i*u
def mX(v u i j:Nat):Nat:=mT v u i+Bs^i*dg v i*(u%Bs^j)
def mC(v u i j:Nat):Nat:=mX v u i j / Bs^(i+j)-mT v u i / Bs^(i+j)
def mA(v u i j k:Nat):Nat:=if k<i+j then dg (mX v u i j) k else dg (mT v u i) k
theorem qy4(v u i:Nat):mX v u i 0=mT v u i:=by simp[mX,yr]
theorem qy5(v u i:Nat):mC v u i 0=0:=by simp[mC,qy4]
theorem q71(v u i k:Nat):mA v u i 0 k=dg (mT v u i) k:=by unfold mA;rw[qy4];split<;>rfl
theorem q72(v u:Nat):mT v u 0=0:=by simp[mT,yr]
theorem qy6(v u i j:Nat):mX v u i (j+1)=mX v u i j+Bs^(i+j)*(dg v i*dg u j):=by
 unfold mX;rw[qkm,yy,<-ye,yf];congr 1;simp only[xR,Nat.mul_left_comm]
theorem jn6(v u i j:Nat):mT v u i<=mX v u i j:=Nat.le_add_right _ _
theorem q51(v u i j:Nat):mX v u i j / Bs^(i+j)=mT v u i / Bs^(i+j)+mC v u i j:=by
 unfold mC;have:=Nat.div_le_div_right (c:=Bs^(i+j)) (jn6 v u i j);omega
theorem qy7(v u i j:Nat):mX v u i (j+1) / Bs^(i+j)=mT v u i / Bs^(i+j)+mC v u i j+dg v i*dg u j:=by
 rw[qy6,Nat.add_mul_div_left _ _ (qbj _),q51]
theorem qy8(v u i j:Nat):mC v u i (j+1)=(dg v i*dg u j+dg (mT v u i) (i+j)+mC v u i j) / 18446744073709551616:=by
 have h:=qy7 v u i j;have hs:=qcu (mT v u i) (i+j);have h2:mX v u i (j+1) / Bs^(i+(j+1))=mX v u i (j+1) / Bs^(i+j) / Bs:=by
  rw[ya,show i+(j+1)=(i+j)+1 from rfl,yq]
 generalize hc:mC v u i j=c at *;show mX v u i (j+1) / Bs^(i+(j+1))-mT v u i / Bs^(i+(j+1))=_;rw[h2,h,hs,show i+(j+1)=(i+j)+1 from rfl];rw[show mT v u i / Bs^(i+j+1)*Bs+dg (mT v u i) (i+j)+c+dg v i*dg u j=Bs*(mT v u i / Bs^(i+j+1))+(dg v i*dg u j+dg (mT v u i) (i+j)+c) by rw[xk];omega];rw[yW qbk,zM]
theorem jbp(v u i j:Nat):dg (mX v u i (j+1)) (i+j)=(dg v i*dg u j+dg (mT v u i) (i+j)+mC v u i j)%18446744073709551616:=by
 have h:=qy7 v u i j;have hs:=qcu (mT v u i) (i+j);show mX v u i (j+1) / Bs^(i+j)%Bs=_;rw[h,hs];rw[show mT v u i / Bs^(i+j+1)*Bs+dg (mT v u i) (i+j)+mC v u i j+dg v i*dg u j=Bs*(mT v u i / Bs^(i+j+1))+(dg v i*dg u j+dg (mT v u i) (i+j)+mC v u i j) by rw[xk];omega];rw[zw]
theorem qui{a b t c:Nat}(ha:a<18446744073709551616)(hb:b<18446744073709551616)(ht:t<18446744073709551616)(hc:c<18446744073709551616):(a*b+t+c) / 18446744073709551616<18446744073709551616:=by
 have:a*b<=18446744073709551615*18446744073709551615:=yz Q9R Q9R;omega
theorem jk5(v u i:Nat):∀j,mC v u i j<18446744073709551616
 | 0=>by rw[qy5];decide
 | j+1=>by rw[qy8];exact qui (je9 _ _) (je9 _ _) (je9 _ _) (jk5 v u i j)
theorem jbq(x y p k:Nat)(h:k<p):dg (x+Bs^p*y) k=dg x k:=by
 rw[<-qd4 (x+Bs^p*y) p k h,Nat.add_mul_mod_self_left,qd4 x p k h]
theorem q73(v u i j k:Nat)(h:k≠i+j):mA v u i (j+1) k=mA v u i j k:=by
 unfold mA;by_cases hk:k<i+j
 .rw[if_pos hk,if_pos Q9R,qy6,jbq _ _ _ _ hk]
 .rw[if_neg hk,if_neg Q9R]
theorem jn7(v u i j:Nat):mA v u i (j+1) (i+j)=(dg v i*dg u j+dg (mT v u i) (i+j)+mC v u i j)%18446744073709551616:=by
 unfold mA;rw[if_pos Q9R,jbp]
theorem jbr(v u i j:Nat):mA v u i j (i+j)=dg (mT v u i) (i+j):=by unfold mA;rw[if_neg Q9R]
theorem jbs(v u i n:Nat)(hu:u<Bs^n):mX v u i n=mT v u (i+1):=by
 unfold mX mT;rw[xC hu,qkm,xy]
theorem jk6(v u i n:Nat)(hu:u<Bs^n):mT v u i<Bs^(i+n):=by
 unfold mT;rw[yf];have h1:=xr v (qbj i);exact zx h1 hu
theorem qy9(v u i n k:Nat)(hu:u<Bs^n):dg (mT v u (i+1)) k=if k<i+n then mA v u i n k else if k=i+n then mC v u i n else dg (mT v u i) k:=by
 have hx:=jbs v u i n hu;have h0:mT v u i / Bs^(i+n)=0:=xM (jk6 v u i n hu);by_cases h1:k<i+n
 .rw[if_pos h1];unfold mA;rw[if_pos h1,hx]
 .rw[if_neg h1];by_cases h2:k=i+n
  .rw[if_pos h2];subst h2;have h3:=q51 v u i n;rw[h0,xq,hx] at h3;show mT v u (i+1) / Bs^(i+n)%Bs=_;rw[h3,xC (jk5 v u i n)]
  .rw[if_neg h2];have h4:i+n<=k:=by omega
   have h5:Bs^(i+n)<=Bs^k:=yc qbk h4;have h6:Bs^(i+1+n)<=Bs^k:=yc qbk Q9R;rw[qbt _ _ (xl (jk6 v u i n hu) h5),qbt _ _ (xl (jk6 v u (i+1) n hu) h6)]
theorem q74(v u i n k:Nat)(h:i+n<=k):mA v u i n k=dg (mT v u i) k:=by unfold mA;rw[if_neg Q9R]
theorem jbt(v u m:Nat)(hv:v<Bs^m):mT v u m=v*u:=by unfold mT;rw[xC hv]
theorem q75(ab t c:Nat):(((((ab%18446744073709551616:Nat):Int)+(t:Int)+0)%18446744073709551616)+(c:Int)+0)%18446744073709551616=(((ab+t+c)%18446744073709551616:Nat):Int):=by omega
theorem q28(ab t c:Nat)(h:(ab+t+c) / 18446744073709551616<18446744073709551616):IntKind.u64.wrap (IntKind.u64.wrap (((ab / 18446744073709551616:Nat):Int)+(((ab%18446744073709551616:Nat):Int)+(t:Int)+0) / 18446744073709551616)+((((ab%18446744073709551616:Nat):Int)+(t:Int)+0)%18446744073709551616+(c:Int)+0) / 18446744073709551616)=(((ab+t+c) / 18446744073709551616:Nat):Int):=by
 rw[xn,xn];omega
theorem qbm{a b:Int}(h:a=b):Value.int .u64 a=.int .u64 b:=by rw[h]
theorem qax{a b:Int}(h:a=b):xc a=xc b:=by rw[h]
theorem jn8(n1 n2:Bool)(v u:Nat)(hv:v<Bs^16)(hu:u<Bs^16)(hvu:v*u<Top)(w:World):
  xa 132 #[.agg ⟨wiL n1 false v⟩,.agg ⟨wiL n2 false u⟩] w (.agg ⟨wiL ((n1 != n2)&&decide (v*u≠0)) false (v*u)⟩):=by
 have hn1:=jht v
 have hn2:=jht u
 have hvm:v<Bs^nd v:=qgq v 16 hv
 have hun:u<Bs^nd u:=qgq u 16 hu
 refine qac (G:=tys) w tysOK mixed func132 Q9S (by simp[qag]) (by exact qag _ _ _) ?_
 repeat (refine Ba ?_;first|refine Q5Q ?_|refine Bb (q5y _ _ _ _ (qcv Q9S)) ?_)
 refine Ba ?_
 refine Bo (α:=Nat) (λi=>i<=nd v) (λi=>nd v-i) (λi=>[(29,xc (i:Int))]) (λi=>[(3,⟨true,32,[(0,32,.agg ⟨limL 32 (dg (mT v u i))⟩)]⟩)]) 0 (xi _) ?_ ?_
 .repeat (refine Ba ?_;first|exact Be|refine Q5W ?_|refine Q6a ?_|refine Bc (ChunkLe.of (by rw[q72,qcl (g:=λ_=>0) (λj _=>qgo j)];rfl)) ?_)
 .intro i hi;by_cases hlt:i<nd v
  .refine Ba ?_;refine Bg (by simpa using hlt) ?_;refine Ba ?_;refine Bo (α:=Nat) (λj=>j<=nd u) (λj=>nd u-j) (λj=>[(33,xc (j:Int)),(9,.int .u64 ((mC v u i j:Nat):Int))]) (λj=>[(3,⟨true,32,[(0,32,.agg ⟨limL 32 (mA v u i j)⟩)]⟩)]) 0 (xi _) ?_ ?_
   .repeat (refine Ba ?_;first|exact Be|refine Q5W ?_|refine Q6a ?_|refine Bc (ChunkLe.of (by rw[qcl (f:=mA v u i 0) (g:=dg (mT v u i)) (λk _=>q71 v u i k)])) ?_|refine Bc (by rw[qy5];rfl) ?_)
   .intro j hj;have da:=je9 v i;have db:=je9 u j;have dt:=je9 (mT v u i) (i+j);have dc:=jk5 v u i j;by_cases hlt2:j<nd u
    .have hab:dg v i*dg u j<=18446744073709551615*18446744073709551615:=yz Q9R Q9R;refine Ba ?_;refine Bg (by simpa using hlt2) ?_;refine Ba ?_;refine N.alt ?_;refine Ba ?_;refine Bi i 1 rfl Q9R ?_;refine Ba ?_;refine Bk _ (qoa (p:=i) Q9R rfl) ?_;refine Ba ?_;refine Bi j 1 rfl Q9R ?_;refine Ba ?_;refine Bk _ (qoa (p:=j) Q9R rfl) ?_;refine Ba ?_;refine Bb (qgb (dg v i) (dg u j) _ da db) ?_;refine Ba ?_;refine Bc ⟨by kernel_rfl,by kernel_rfl⟩ ?_;refine Q5k ?_;refine Bk _ (qaw (p:=i+j) Q9R rfl) ?_;rw[jbr];refine Q5r ?_;refine Q5r ?_;refine Q5k ?_;refine N.store ⟨true,32,[(0,32,.agg ⟨limL 32 (mA v u i (j+1))⟩)]⟩ (qce (p:=i+j) Q9R rfl (by rw[jn7];exact q75 _ _ _) λk _ hk=>q73 v u i j k hk) ?_;refine Ba ?_;refine N.next (j+1) ⟨by omega,by omega⟩ ?_
     repeat (refine Ba ?_;first|exact Be|refine Q5W ?_|refine Q67 ?_|refine Bc (qbm (by rw[qy8];exact q28 _ _ _ (qui da db dt dc))) ?_)
    .refine Ba ?_;refine Bf (by simpa using hlt2) ?_;obtain rfl:j=nd u:=by omega
     refine Ba ?_;refine Bi (i+nd u) 1 QaH Q9R ?_;refine Ba ?_;refine N.store ⟨true,32,[(0,32,.agg ⟨limL 32 (dg (mT v u (i+1)))⟩)]⟩ (qce (p:=i+nd u) Q9R rfl (by rw[qy9 v u i (nd u) _ hun,if_neg Q9R,if_pos rfl]) (λk _ hk=>by
      rw[qy9 v u i (nd u) k hun];by_cases h:k<i+nd u
      .rw[if_pos h]
      .rw[if_neg h,if_neg hk,q74 _ _ _ _ _ Q9R])) ?_
     exact Q3m
  .have hm:i=nd v:=by omega
   subst hm;refine Ba ?_;refine Bf Qa2 ?_;refine Ba ?_;rw[jbt v u _ hvm];refine N.mk ⟨0,16,0,rfl,rfl,?_⟩;refine Ba ?_;refine N.mk ⟨0,16,0,⟨rfl,by decide⟩,rfl,?_⟩;refine Ba ?_;refine N.mk ⟨16,.agg ⟨limL 16 (dg (v*u))⟩,⟨true,16,[(0,16,.agg ⟨limL 16 (dg (v*u))⟩)]⟩,rfl,?_,qaa _ _,qm1,?_⟩
   .have:=qm0 (o:=true) (n:=32) (m:=16) (p:=0) (f:=dg (v*u)) Q9R;simp only[xq] at this;exact this
   refine Ba ?_;refine Bc ⟨by kernel_rfl,by kernel_rfl⟩ ?_;refine Ba ?_;refine N.mk ⟨16,32,1,rfl,⟨rfl,by decide⟩,?_⟩;refine Ba ?_;refine Bo (α:=Nat) (λj=>j<=16) (λj=>16-j) (λj=>[(86,xc (j:Int))]) (λ_=>[]) 0 Q9R ?_ ?_
   .exact Q3g
   .intro j hj;by_cases hlt3:j<16
    .refine Ba ?_;refine Bg Qah ?_;refine Ba ?_;refine Bi j 1 rfl hlt3 ?_;refine Ba ?_;refine Bk _ (qaw (p:=16+j) Q9R rfl) ?_;refine Ba ?_;have hz:dg (v*u) (16+j)=0:=qbt _ _ (xl (xE hvu qbr) (yc qbk Q9R));rw[hz];refine Bf rfl ?_;refine Ba ?_;refine N.next (j+1) ⟨by omega,by omega⟩ ?_;exact Q0D
    .refine Ba ?_;refine Bf Qah ?_;repeat (refine Ba ?_;first|refine Q5Q ?_|refine Bb (cMade _ _ _ hvu) ?_)
     rfl
open Go Go.RowKit Sx
abbrev wz(z:Int):Value:=.agg ⟨wiL (decide (z<0)) false z.natAbs⟩
theorem qad(z:Int):qap (wz z)=true:=qag _ _ _
theorem qaj(z:Int):qam (wz z)=true:=qag _ _ _
theorem q29(a b:Int):((decide (a<0) != decide (b<0))&&decide (a.natAbs*b.natAbs≠0))=decide (a*b<0):=by
 by_cases h0:a=0
 .subst h0;simp
 by_cases h1:b=0
 .subst h1;simp
 have hne:a.natAbs*b.natAbs≠0:=Nat.mul_ne_zero Q9R Q9R;rw[xg hne,zg];rcases Int.lt_or_gt_of_ne h0 with ha|ha<;>rcases Int.lt_or_gt_of_ne h1 with hb|hb
 .have:=Int.mul_pos_of_neg_of_neg ha hb;rw[xg ha,xg hb,xf Q9R];rfl
 .have:=Int.mul_neg_of_neg_of_pos ha hb;rw[xg ha,xf (by omega:¬ b<0),xg this];rfl
 .have:=Int.mul_neg_of_pos_of_neg ha hb;rw[xf (by omega:¬ a<0),xg hb,xg this];rfl
 .have:=Int.mul_pos ha hb;rw[xf (by omega:¬ a<0),xf (by omega:¬ b<0),xf Q9R];rfl
theorem cMulz(a b:Int)(h:Hp)(ha:a.natAbs<Bs^16)(hb:b.natAbs<Bs^16)(hab:(a*b).natAbs<Top):qae prog 132 [wz a,wz b] h (wz (a*b)) [] []:=
 qai Qae (qaj _) (call132 _) λw=>by
  have:=jn8 (decide (a<0)) (decide (b<0)) a.natAbs b.natAbs ha hb (by rwa[<-y5]) w;rw[q29,<-y5] at this;exact this
theorem cOfz(n:Int)(h:Hp)(h0 : -9223372036854775808<=n)(h1:n<9223372036854775808):qae prog 98 [xc n] h (wz n) [] []:=cOf n h h0 h1
theorem qjr(a b:Nat)(h:Hp)(ha:a<Bs^16)(hb0:0<b)(hb:b<18446744073709551616):qae prog 215 [.agg ⟨limL 16 (dg a)⟩,.agg ⟨limL 16 (dg b)⟩] h (.tuple #[.agg ⟨limL 16 (dg (a / b))⟩,.agg ⟨limL 16 (dg (a%b))⟩]) [] []:=
 qai (by simp[qaf]) Qb2 (call215 _) λw=>qv8 a b ha hb0 hb (λi w hi=>by
  have hs:=q22 a b i hb0;have hr:rm a b (i+1)<b:=xr _ hb0;have hd:=je9 a i;have e1:rm a b (i+1)*18446744073709551616+dg a i=a / Bs^(i+1)%b*18446744073709551616+dg a i:=rfl;rcases xU (rm a b (i+1)) with h0|h0
  .have:=qug (dg a i) b hd hb0 hb w;rw[h0,yG,xq] at e1;rw[<-e1] at hs;rw[hs.1,hs.2] at this;rw[h0];exact this
  .have:=quh (rm a b (i+1)) (dg a i) b h0 hr hd hb w;unfold d64q d64r at this;rw[e1,hs.1,hs.2] at this;exact this) w
theorem qbs{h:Hp}{i v:Nat}{o:Bool}(hi:h[i]?=some (some ⟨o,16,[(0,16,.agg ⟨limL 16 (dg v)⟩)]⟩)):Has h i 0 v:=
 ⟨_,hi,nlr _,λj hj=>by
  refine Q3R ?_;simp only[cellIn];rw[show 0+j-0=j by omega];exact qf5 hj⟩
theorem q3a:limL 16 (dg 1)=[.int .u64 1,.int .u64 0,.int .u64 0,.int .u64 0,.int .u64 0,.int .u64 0,.int .u64 0,.int .u64 0,.int .u64 0,.int .u64 0,.int .u64 0,.int .u64 0,.int .u64 0,.int .u64 0,.int .u64 0,.int .u64 0]:=by
 rw[qcl (g:=λj=>if j=0 then 1 else 0) (λj _=>qhm 1 Q9V j)];rfl
theorem qsl{h:Hp}{i:Nat}{o:Bool}(hi:h[i]?=some (some ⟨o,16,[(0,16,.agg ⟨[.int .u64 1,.int .u64 0,.int .u64 0,.int .u64 0,.int .u64 0,.int .u64 0,.int .u64 0,.int .u64 0,.int .u64 0,.int .u64 0,.int .u64 0,.int .u64 0,.int .u64 0,.int .u64 0,.int .u64 0,.int .u64 0]⟩)]⟩)):Has h i 0 1:=by
 rw[<-q3a] at hi;exact qbs hi
theorem jn9(i f v j g u:Nat)(h:Hp)(h1:Has h i f v)(h2:Has h j g u):qae prog 153 [.pointer (some ⟨i,f,some 0⟩),.pointer (some ⟨j,g,some 0⟩)] h (.tuple #[.agg ⟨limL 16 (dg (v+u))⟩,.int .u64 (cry v u 16)]) [] [i,j]:=
 qgp [i,j] (by simp[qam,qaf];rfl) (call153) λρ w hc=>q7w (ρ i).1 ((ρ i).2+f) v (ρ j).1 ((ρ j).2+g) u w (h1.digs Qa2 hc) (h2.digs Qa2 hc)
theorem jmg(i f v:Nat)(h:Hp)(h1:Has h i f v):qae prog 186 [.pointer (some ⟨i,f,some 0⟩)] h (xc (bl v)) [] [i]:=
 qgp [i] rfl (call186) λρ w hc=>(quc (ρ i).1 ((ρ i).2+f) v w (h1.digs Qa2 hc)).mono Qal
theorem qwa:prog.eqGuardType prog.depth 122=false:=by kernel_rfl
theorem qf7(op:BinOp)(x y:Operand)(u:Nat)(hu:u<Bs^16)(neg:Bool)(hop:op=if neg then .neq else .eql):BinIs prog op 122 x y (.agg ⟨limL 16 (dg u)⟩) (.agg #[.int .u64 0,.int .u64 0,.int .u64 0,.int .u64 0,.int .u64 0,.int .u64 0,.int .u64 0,.int .u64 0,.int .u64 0,.int .u64 0,.int .u64 0,.int .u64 0,.int .u64 0,.int .u64 0,.int .u64 0,.int .u64 0]) (.bool (if neg then !decide (u=0) else decide (u=0))):=by
 have he:=qv7 u hu;refine⟨qaf _ _,rfl,by cases neg<;>rfl,λw=>?_⟩;have hg:∀op,(eqGuard op 122 x y (.agg ⟨limL 16 (dg u)⟩) (.agg #[.int .u64 0,.int .u64 0,.int .u64 0,.int .u64 0,.int .u64 0,.int .u64 0,.int .u64 0,.int .u64 0,.int .u64 0,.int .u64 0,.int .u64 0,.int .u64 0,.int .u64 0,.int .u64 0,.int .u64 0,.int .u64 0])).run prog w=.ok () w:=λop=>by
  cases op<;>simp[eqGuard,Sem.run_bind,run_program,qwa]
 subst hop;cases neg
 .simp only[Sem.run_bind,hg,Result.andThen_ok,if_false,xG];show(do pure (.bool (<-Op.equal 122 (.agg ⟨limL 16 (dg u)⟩) (.agg #[.int .u64 0,.int .u64 0,.int .u64 0,.int .u64 0,.int .u64 0,.int .u64 0,.int .u64 0,.int .u64 0,.int .u64 0,.int .u64 0,.int .u64 0,.int .u64 0,.int .u64 0,.int .u64 0,.int .u64 0,.int .u64 0]))):Sem Value).run prog w=_;exact Q2I
 .simp only[Sem.run_bind,hg,Result.andThen_ok,if_true];show(do pure (.bool (!(<-Op.equal 122 (.agg ⟨limL 16 (dg u)⟩) (.agg #[.int .u64 0,.int .u64 0,.int .u64 0,.int .u64 0,.int .u64 0,.int .u64 0,.int .u64 0,.int .u64 0,.int .u64 0,.int .u64 0,.int .u64 0,.int .u64 0,.int .u64 0,.int .u64 0,.int .u64 0,.int .u64 0])))):Sem Value).run prog w=_;exact Q2I
theorem jne(h:n<18446744073709551616):n<Bs^16:=xl h (Nat.le_self_pow Q9V Bs)
theorem joa(z:Int)(hz:z.natAbs<Top)(w:World):xa 131 #[wz z] w (wz (-z)):=by
 refine qac (G:=tys) w tysOK mixed func131 Q9S Q9U Q9T ?_;repeat' (refine Ba ?_;first|refine Q5Q ?_|with_reducible refine Bb (cMade _ _ _ hz) ?_|fail)
 all_goals
  simp only[wz,Value.agg.injEq,Array.mk.injEq,yP]
  congr 1
  by_cases h:z<0
  .rw[xg h,xf (by omega:¬ -z<0)];rfl
  .by_cases h0:z=0
   .subst h0;rfl
   .rw[xf h,xg (by omega : -z<0),xg (by omega:z.natAbs≠0)];rfl
theorem jmh(z:Int)(h:Hp)(hz:z.natAbs<Top):qae prog 131 [wz z] h (wz (-z)) [] []:=
 qai Qae (qaj _) (call131 _) (joa z hz)
open Go Go.RowKit Sx
theorem qh6(n o:Bool)(v:Nat):(wiL n o v).length=18:=by simp[wiL,qcz]
variable{ix:List (Nat×Nat)}
theorem wi_re{w:Bool}(n o:Bool)(v:Nat):((⟨false,18,[(0,18,.agg ⟨wiL n o v⟩)]⟩:Chunk).own=true->(⟨w,18,[(0,18,.agg ⟨wiL n o v⟩)]⟩:Chunk).own=true/\m<=(⟨w,18,[(0,18,.agg ⟨wiL n o v⟩)]⟩:Chunk).n)/\(⟨false,18,[(0,18,.agg ⟨wiL n o v⟩)]⟩:Chunk).n<=(⟨w,18,[(0,18,.agg ⟨wiL n o v⟩)]⟩:Chunk).n/\qbg ix ⟨w,18,[(0,18,.agg ⟨wiL n o v⟩)]⟩ ⟨false,18,[(0,18,.agg ⟨wiL n o v⟩)]⟩:=
 qim (qaz (qh6 _ _ _) (qag _ _ _))
theorem q52{w:Bool}(f:Nat->Nat):((⟨false,16,[(0,16,.agg ⟨limL 16 f⟩)]⟩:Chunk).own=true->(⟨w,16,[(0,16,.agg ⟨limL 16 f⟩)]⟩:Chunk).own=true/\m<=(⟨w,16,[(0,16,.agg ⟨limL 16 f⟩)]⟩:Chunk).n)/\(⟨false,16,[(0,16,.agg ⟨limL 16 f⟩)]⟩:Chunk).n<=(⟨w,16,[(0,16,.agg ⟨limL 16 f⟩)]⟩:Chunk).n/\qbg ix ⟨w,16,[(0,16,.agg ⟨limL 16 f⟩)]⟩ ⟨false,16,[(0,16,.agg ⟨limL 16 f⟩)]⟩:=
 qim (qaz (qcz _ _) (qaf _ _))
theorem job(x y b:Nat)(hb:b<=1)(w:World):(callFunc 187 #[.int .u64 x,.int .u64 y,.int .u64 b]).run prog w =
  .ok (.value (.tuple #[.int .u64 (((x+18446744073709551616-y-b)%18446744073709551616:Nat):Int),.int .u64 ((if x<y+b then 1 else 0:Nat):Int)])) w:=by
 rw[run_callFunc_extern func187 Q9W Q9W Q9W (e:=Proofs.sub64Entry) Q9W,Proofs.run_sub64 x y b hb]
 rfl
theorem qgs(x y b p q:Nat)(h:Hp)(hb:b<=1)(hp:(x+18446744073709551616-y-b)%18446744073709551616=p)(hq:(if x<y+b then 1 else 0)=q):qae prog 187 [.int .u64 x,.int .u64 y,.int .u64 b] h (.tuple #[.int .u64 p,.int .u64 q]) [] []:=by
 subst hp;subst hq;exact qtx rfl rfl λw=>job x y b hb w
def jhk(d i:Nat):Nat->Nat:=λj=>if j<i then dg d j else 0
theorem qwb(d:Nat):limL 16 (jhk d 0)=limL 16 (λ_=>0):=qcl λj _=>by simp[jhk]
theorem qza(d:Nat):limL 16 (jhk d 16)=limL 16 (dg d):=qcl λj hj=>by unfold jhk;rw[if_pos hj]
theorem joc(i j v u:Nat)(n1 o1 n2 o2 w1 w2:Bool)(h:Hp)(hi:h[i]?=some (some ⟨w1,18,[(0,18,.agg ⟨wiL n1 o1 v⟩)]⟩))(hj:h[j]?=some (some ⟨w2,18,[(0,18,.agg ⟨wiL n2 o2 u⟩)]⟩))(huv:u<=v):
  qae prog 156 [.pointer (some ⟨i,2,some 0⟩),.pointer (some ⟨j,2,some 0⟩)] h (.agg ⟨limL 16 (dg (v-u))⟩) [] [i,j]:=by
 obtain⟨d,rfl⟩:∃d,v=u+d:=⟨v-u,by omega⟩
 rw[zM]
 refine qak (G:=tys) [⟨i,_,⟨false,18,[(0,18,.agg ⟨wiL n1 o1 (u+d)⟩)]⟩,⟨false,0,[]⟩⟩,⟨j,_,⟨false,18,[(0,18,.agg ⟨wiL n2 o2 u⟩)]⟩,⟨false,0,[]⟩⟩] [] [.pointer (some ⟨0,2,some 0⟩),.pointer (some ⟨1,2,some 0⟩)] tysOK mixed func156 Q9S (call156) ⟨hi,hj,xb⟩ ⟨wi_re _ _ _,wi_re _ _ _,xb⟩ Q9X xb Q8r ?_
 repeat' (refine Ba ?_;first|refine Q5P ?_|fail)
 refine Ba ?_
 refine Bo (α:=Nat) (λi=>i<=16) (λi=>16-i) (λi=>[(8,xc (i:Int)),(6,.int .u64 ((cry u d i:Nat):Int))]) (λi=>[(3,⟨true,16,[(0,16,.agg ⟨limL 16 (jhk d i)⟩)]⟩)]) 0 (xi _) ?_ ?_
 .repeat (refine Ba ?_;first|exact Be|refine Q5W ?_|refine Q6a ?_|refine Bc (ChunkLe.of (by rw[qwb];rfl)) ?_|refine Bc (by rw[qdd];rfl) ?_)
 .intro i hi;by_cases hlt:i<16
  .have c1:dg u i+dg d i+cry u d i=dg (u+d) i+18446744073709551616*cry u d (i+1):=qkn u d i;have c2:=qdp u d i;have c3:=qdp u d (i+1);have c4:=je9 u i;have c5:=je9 d i;have c6:=je9 (u+d) i;have hp:(dg (u+d) i+18446744073709551616-dg u i-cry u d i)%18446744073709551616=dg d i:=by omega
   have hq:(if dg (u+d) i<dg u i+cry u d i then 1 else 0)=cry u d (i+1):=by split<;>omega
   repeat' (refine Ba ?_;first|refine Q5P ?_|refine Q64 ?_|refine Bi i 1 rfl hlt ?_|refine Bk _ (qoa (p:=i) hlt rfl) ?_|refine Bb (qgs _ _ _ _ _ _ c2 hp hq) ?_|refine N.store ⟨true,16,[(0,16,.agg ⟨limL 16 (jhk d (i+1))⟩)]⟩ (qce (p:=i) hlt Qaj (by unfold jhk;rw[if_pos Q9R]) λk _ hk=>by unfold jhk;by_cases h:k<i<;>simp[h]<;>omega) ?_|fail)
   exact Q3m
  .obtain rfl:i=16:=by omega
   refine Ba ?_;refine Bf Q9V ?_;rw[qza];repeat' (refine Ba ?_;first|refine Q5P ?_|exact Be|refine Bc xb ?_|refine Bc (.plain (qaf _ _)) ?_|fail)
theorem jia(i f v j g u:Nat)(h:Hp)(h1:Has h i f v)(h2:Has h j g u)(hv:v<Bs^16)(hu:u<Bs^16):qae prog 155 [.pointer (some ⟨i,f,some 0⟩),.pointer (some ⟨j,g,some 0⟩)] h (xc (cm v u)) [] [i,j]:=
 qgp [i,j] rfl (call155) λρ w hc=>(qyv (ρ i).1 ((ρ i).2+f) v (ρ j).1 ((ρ j).2+g) u w (h1.digs Qa2 hc) (h2.digs Qa2 hc) hv hu).mono (by rintro e w' ⟨he,hb,_⟩;exact⟨he,hb⟩)
theorem qzb(v u:Nat)(h:v+u<Bs^16):cry v u 16=0:=by
 unfold cry;have h1:v%Bs^16<=v:=Nat.mod_le _ _;have h2:u%Bs^16<=u:=Nat.mod_le _ _;exact xM Q9R
theorem qkj(v u:Nat)(hv:v<Top)(hu:u<Top)(hs:v+u<Top)(w:World):xa 130 #[.agg ⟨wiL false false v⟩,.agg ⟨wiL false false u⟩] w (.agg ⟨wiL (false&&decide (v+u≠0)) false (v+u)⟩):=Q1X
theorem qmf(v u:Nat)(hv:v<Top)(hu:u<Top)(hs:u<=v)(w:World):xa 130 #[.agg ⟨wiL false false v⟩,.agg ⟨wiL true false u⟩] w (.agg ⟨wiL (false&&decide (v-u≠0)) false (v-u)⟩):=Q5b
theorem qmg(v u:Nat)(hv:v<Top)(hu:u<Top)(hs:v<u)(w:World):xa 130 #[.agg ⟨wiL false false v⟩,.agg ⟨wiL true false u⟩] w (.agg ⟨wiL (true&&decide (u-v≠0)) false (u-v)⟩):=Q5c
theorem qll(v u:Nat)(hv:v<Top)(hu:u<Top)(hs:v+u<Top)(w:World):xa 130 #[.agg ⟨wiL true false v⟩,.agg ⟨wiL true false u⟩] w (.agg ⟨wiL (true&&decide (v+u≠0)) false (v+u)⟩):=Q1X
theorem qof(v u:Nat)(hv:v<Top)(hu:u<Top)(hs:u<=v)(w:World):xa 130 #[.agg ⟨wiL true false v⟩,.agg ⟨wiL false false u⟩] w (.agg ⟨wiL (true&&decide (v-u≠0)) false (v-u)⟩):=Q5b
theorem qog(v u:Nat)(hv:v<Top)(hu:u<Top)(hs:v<u)(w:World):xa 130 #[.agg ⟨wiL true false v⟩,.agg ⟨wiL false false u⟩] w (.agg ⟨wiL (false&&decide (u-v≠0)) false (u-v)⟩):=Q5c
variable{z:Int}
theorem qj3(h:z<0):wz z=.agg ⟨wiL true false z.natAbs⟩:=by unfold wz;rw[xg h]
theorem qj4(h:0<=z):wz z=.agg ⟨wiL false false z.natAbs⟩:=by unfold wz;rw[xf Q9R]
theorem jib{b:Bool}(h1:n=z.natAbs)(h2:b=decide (z<0)):(Value.agg ⟨wiL b false n⟩)=wz z:=by subst h1 h2;rfl
theorem jod(a b:Int)(ha:a.natAbs<Top)(hb:b.natAbs<Top)(hab:(a+b).natAbs<Top)(w:World):xa 130 #[wz a,wz b] w (wz (a+b)):=by
 by_cases h1:a<0<;>by_cases h2:b<0
 .rw[qj3 h1,qj3 h2];have:=qll a.natAbs b.natAbs ha hb Q9R w;rwa[jib (b:=true&&decide (a.natAbs+b.natAbs≠0)) (n:=a.natAbs+b.natAbs) (z:=a+b) Q9R QaI] at this
 .rw[qj3 h1,qj4 (by omega:0<=b)];by_cases h3:b.natAbs<=a.natAbs
  .have:=qof a.natAbs b.natAbs ha hb h3 w;rwa[jib (b:=true&&decide (a.natAbs-b.natAbs≠0)) (n:=a.natAbs-b.natAbs) (z:=a+b) Q9R QaI] at this
  .have:=qog a.natAbs b.natAbs ha hb Q9R w;rwa[jib (b:=false&&decide (b.natAbs-a.natAbs≠0)) (n:=b.natAbs-a.natAbs) (z:=a+b) Q9R QaN] at this
 .rw[qj4 (by omega:0<=a),qj3 h2];by_cases h3:b.natAbs<=a.natAbs
  .have:=qmf a.natAbs b.natAbs ha hb h3 w;rwa[jib (b:=false&&decide (a.natAbs-b.natAbs≠0)) (n:=a.natAbs-b.natAbs) (z:=a+b) Q9R QaN] at this
  .have:=qmg a.natAbs b.natAbs ha hb Q9R w;rwa[jib (b:=true&&decide (b.natAbs-a.natAbs≠0)) (n:=b.natAbs-a.natAbs) (z:=a+b) Q9R QaI] at this
 .rw[qj4 (by omega:0<=a),qj4 (by omega:0<=b)];have:=qkj a.natAbs b.natAbs ha hb Q9R w;rwa[jib (b:=false&&decide (a.natAbs+b.natAbs≠0)) (n:=a.natAbs+b.natAbs) (z:=a+b) Q9R QaN] at this
theorem jhl(a b:Int)(h:Hp)(ha:a.natAbs<Top)(hb:b.natAbs<Top)(hab:(a+b).natAbs<Top):qae prog 130 [wz a,wz b] h (wz (a+b)) [] []:=
 qai Qae (qaj _) (call130 _) (jod a b ha hb hab)
theorem q76(a b:Int)(ha:a.natAbs<Top)(hb:b.natAbs<Top)(hab:(a-b).natAbs<Top)(w:World):xa 97 #[wz a,wz b] w (wz (a-b)):=by
 have hn:(-b).natAbs<Top:=by rwa[yP]
 have hs:(a + -b).natAbs<Top:=by rwa[<-Int.sub_eq_add_neg]
 refine qac (G:=tys) w tysOK mixed func97 Q9S Q9U Q9T ?_;repeat' (refine Ba ?_;first|refine Q5P ?_|with_reducible (first|refine Bb (jmh _ _ hb) ?_|refine Bb (jhl _ _ _ ha hn hs) ?_)|fail)
 all_goals (rw[Int.sub_eq_add_neg])
theorem jic(a b:Int)(h:Hp)(ha:a.natAbs<Top)(hb:b.natAbs<Top)(hab:(a-b).natAbs<Top):qae prog 97 [wz a,wz b] h (wz (a-b)) [] []:=
 qai Qae (qaj _) (call97 _) (q76 a b ha hb hab)
def sgn(z:Int):Int:=if z<0 then -1 else if z=0 then 0 else 1
theorem qoh(z:Int):sgn z > 0↔z > 0:=by unfold sgn;split<;>(try split)<;>omega
theorem q3b(z:Int)(hz:z.natAbs<Top)(w:World):xa 65 #[wz z] w (xc (sgn z)):=by
 have hz16:=xE hz qbr;refine qac (G:=tys) w tysOK mixed func65 Q9S Q9U Q9T ?_;repeat' (refine Ba ?_;first|refine Q5P ?_|with_reducible (first|refine Bu _ (qf7 _ _ _ _ hz16 false rfl) ?_|refine Bj (λhb=>?_) λhb=>?_)|fail)
 all_goals
  simp only[xh,xm,xG,if_false] at *
  unfold sgn
  first
   | rw[if_neg Q9R,if_pos Q9R]
   | rw[if_pos Q9R]
   | rw[if_neg Q9R,if_neg Q9R]
theorem jid(z:Int)(h:Hp)(hz:z.natAbs<Top):qae prog 65 [wz z] h (xc (sgn z)) [] []:=
 qai Qae rfl (call65 _) (q3b z hz)
theorem jbu(n:Nat):dg n 0=n%18446744073709551616:=by
 show n / Bs^0%Bs=_;rw[Nat.pow_zero,yY]
def ji9(z:Int):Bool:=decide (-9223372036854775808<=z/\z<9223372036854775808)
def n64(z:Int):Int:=if ji9 z then z else 0
theorem tup2{a b:Int}(h:a=b):Value.tuple ⟨[Value.int IntKind.i64 a,Value.bool true]⟩=Value.tuple #[Value.int IntKind.i64 b,Value.bool true]:=by rw[h]
theorem qm2(h : -9223372036854775808<=z/\z<9223372036854775808):ji9 z=true/\n64 z=z:=by
 have:ji9 z=true:=xg h;exact⟨this,by unfold n64;rw[this];rfl⟩
theorem qzc(h:¬ (-9223372036854775808<=z/\z<9223372036854775808)):ji9 z=false/\n64 z=0:=by
 have:ji9 z=false:=xf h;exact⟨this,by unfold n64;rw[this];rfl⟩
theorem joe(n:Nat)(hn:n<Bs^16):bl n<=64↔n<18446744073709551616:=
 ⟨λh=>xl (qsj n hn).1 (yc Q9V h:2^bl n<=2^64),λh=>qoc n 64 hn h⟩
theorem q77(z:Int)(hz:z.natAbs<Top)(w:World):xa 214 #[.agg ⟨wiL (decide (z<0)) false z.natAbs⟩] w (.tuple #[xc (n64 z),.bool (ji9 z)]):=by
 have hz16:=xE hz qbr;refine qac (G:=tys) w tysOK mixed func214 Q9S Q9U Q9T ?_;repeat' (refine Ba ?_;first|refine Q5Q ?_|with_reducible refine Bj (λhb=>?_) (λhb=>?_)|refine Bb (jmg _ _ _ _ (qcv Q9S)) ?_|fail)
 all_goals
  have hbl:=joe z.natAbs hz16
  have hdg:=jbu z.natAbs
  try simp only[yu,xn]
  generalize bl z.natAbs=B at *
  generalize dg z.natAbs 0=D at *
  clear hz hz16
  simp only[xh,xm,yv,beq_eq_false_iff_ne,zr,zN,ne_eq,xZ] at *
  first
   | (obtain⟨e1,e2⟩:=qm2 (z:=z) Q9R;rw[e1,e2];exact tup2 Q9R)
   | (obtain⟨e1,e2⟩:=qzc (z:=z) Q9R;rw[e1,e2])
theorem jbv(z:Int)(h:Hp)(hz:z.natAbs<Top):qae prog 214 [wz z] h (.tuple #[xc (n64 z),.bool (ji9 z)]) [] []:=
 qai Qae rfl (call214 _) (q77 z hz)
def e64(z:Int):Int:=if ji9 z then 0 else 2
theorem q3c(z:Int)(hz:z.natAbs<Top)(w:World):xa 194 #[wz z,xc 0] w (.tuple #[xc (n64 z),xc (e64 z)]):=by
 refine qac (G:=tys) w tysOK mixed func194 Q9S Q9U Q9T ?_;repeat' (refine Ba ?_;first|refine Q5Q ?_|with_reducible (first|refine Bj (λhb=>?_) (λhb=>?_)|refine Bb (jbv z _ hz) ?_)|fail)
 .exfalso;exact absurd hb Q9V
 .have h:ji9 z=false:=by simpa using hb
  unfold n64 e64;rw[h];rfl
 .have h:ji9 z=true:=by simpa using hb
  unfold e64;rw[h];rfl
theorem qh7(z:Int)(h:Hp)(hz:z.natAbs<Top):qae prog 194 [wz z,xc 0] h (.tuple #[xc (n64 z),xc (e64 z)]) [] []:=
 qai (by simp[qad];rfl) rfl (call194 _) (q3c z hz)
def isqTo(v:Nat):Nat->Nat
 | 0=>0
 | n+1=>if (n+1)*(n+1)<=v then n+1 else isqTo v n
def isq(v:Nat):Nat:=isqTo v v
theorem quj(v:Nat):∀n,isqTo v n*isqTo v n<=v
 | 0=>xi _
 | n+1=>by
  rw[isqTo];split
  .assumption
  .exact quj v n
theorem quk(v:Nat):∀n,v<(n+1)*(n+1)->v<(isqTo v n+1)*(isqTo v n+1)
 | 0,h=>h
 | n+1,h=>by
  rw[isqTo];split
  .exact h
  .rename_i hn;exact quk v n Q9R
theorem qul(v:Nat):isq v*isq v<=v:=quj v v
theorem q53(v:Nat):v<(isq v+1)*(isq v+1):=quk v v (by
 have:v+1<=(v+1)*(v+1):=Nat.le_mul_of_pos_left _ Q9R;omega)
theorem qsm{a b:Nat}(h:a*a<b*b):a<b:=by
 rcases xP a b with h1|h1
 .exact h1
 .have:=yz h1 h1;omega
theorem q54{v x:Nat}(h:x*x<=v):x<=isq v:=by
 have:=q53 v;have:=qsm (xQ h this);omega
theorem q78{v:Nat}(h:0<v):0<isq v:=q54 (x:=1) Q9R
theorem qi0{v:Nat}(h:v<n*n):isq v<n:=qsm (xQ (qul v) h)
theorem qqv(v x:Nat)(hx:0<x):isq v<=(x+v / x) / 2:=by
 have hr:=qul v;rcases xP ((x+v / x) / 2) (isq v) with h|h
 .exfalso;generalize isq v=r at *;have hq:=Nat.lt_div_mul_add (a:=v) hx;generalize hqq:v / x=q at *;have h1:x+q+1<=2*r:=by omega
  obtain⟨d,hd⟩:∃d,q+1+x+d=2*r:=⟨2*r-(x+q+1),by omega⟩;have h2:v<(q+1)*x:=by rw[xy];omega
  rcases Nat.le_total r x with hxr|hxr
  .obtain⟨e,rfl⟩:∃e,x=r+e:=⟨x-r,by omega⟩;have h3:q+1+e<=r:=by omega
   have h4:(q+1)*(r+e)<=r*r:=by
    obtain⟨f,rfl⟩:∃f,r=q+1+e+f:=⟨r-(q+1+e),by omega⟩;simp only[xy,yy];have c1:q*e=e*q:=xk _ _;have c2:q*f=f*q:=xk _ _;have c3:e*f=f*e:=xk _ _;generalize q*q=t1 at *;generalize e*q=t2 at *;generalize f*q=t3 at *;generalize e*e=t4 at *;generalize f*e=t5 at *;generalize f*f=t6 at *;omega
   omega
  .obtain⟨e,rfl⟩:∃e,r=x+e:=⟨r-x,by omega⟩;have h3:q+1<=x+2*e:=by omega
   have h4:(q+1)*x<=(x+2*e)*x:=yb _ h3;have h5:(x+2*e)*x<=(x+e)*(x+e):=by
    simp only[xy,yy,xR];have c1:e*x=x*e:=xk _ _;generalize x*x=t1 at *;generalize x*e=t2 at *;generalize e*e=t3 at *;omega
   omega
 .exact h
theorem qm3(v x:Nat)(hx:0<x)(h0:isq v<=x)(h:x<=(x+v / x) / 2):x=isq v:=by
 have h1:x<=v / x:=by omega
 have h2:x*x<=v:=(zj hx).1 h1;have:=q54 h2;omega
theorem qqw(v:Nat)(hv:v<Bs^16):isq v<2^((bl v+1) / 2):=by
 apply qi0;refine xl (qsj v hv).1 ?_;rw[<-yf];exact yc Q9V Q9R
open Go Go.RowKit Sx
theorem cUp(i f v k:Nat)(h:Hp)(h1:Has h i f v)(hk:k<64):qae prog 235 [.pointer (some ⟨i,f,some 0⟩),xc k] h (.agg ⟨limL 16 (dg (v*2^k))⟩) [] [i]:=
 qgp [i] (qaf _ _) (call235) λρ w hc=>jbn (ρ i).1 ((ρ i).2+f) v k hk w (h1.digs Qa2 hc)
theorem fd2(n:Nat):((n:Nat):Int).fdiv (2^sh (Int.tmod 1 64) IntKind.u64)=((n / 2:Nat):Int):=by
 rw[show sh (Int.tmod 1 64) IntKind.u64=1 by decide,zF _ Q9V];omega
def dn1(v:Nat):Bool:=IntKind.u64.wrap (((dg v 0:Nat):Int)*2^63) != 0
theorem qsn(v:Nat):limL 16 (qb8 v 1 0)=limL 16 (λ_=>0):=qcl λj _=>by simp[qb8]
theorem qwc(v:Nat):limL 16 (qb8 v 1 16)=limL 16 (dg (v / 2)):=qcl λj hj=>by unfold qb8;rw[if_pos hj]
def downM(v i:Nat):Nat->Nat:=λj=>if j=i then dg v i / 2 else qb8 v 1 i j
theorem qum(i v:Nat)(w1:Bool)(h:Hp)(hi:h[i]?=some (some ⟨w1,16,[(0,16,.agg ⟨limL 16 (dg v)⟩)]⟩))(hv:v<Bs^16):
  qae prog 237 [xd i,xc 1] h (.tuple #[.agg ⟨limL 16 (dg (v / 2))⟩,.bool (dn1 v)]) [] [i]:=by
 refine qak (G:=tys) [⟨i,_,⟨false,16,[(0,16,.agg ⟨limL 16 (dg v)⟩)]⟩,⟨false,0,[]⟩⟩] [] [xd 0,xc 1] tysOK mixed func237 Q9S (call237) ⟨hi,xb⟩ ⟨q52 _,xb⟩ Q9X xb Q83 ?_
 repeat' (refine Ba ?_;first|refine Q5P ?_|with_reducible refine N.min2 ?_|fail)
 refine Ba ?_
 refine Bp 1 ?_
 repeat' (refine Ba ?_;first|refine Q5P ?_|refine Q66 ?_|refine Q6c ?_|fail)
 refine Ba ?_
 refine Bo (α:=Nat) (λi=>i<=16) (λi=>16-i) (λi=>[(9,xc (i:Int))]) (λi=>[(2,⟨true,16,[(0,16,.agg ⟨limL 16 (qb8 v 1 i)⟩)]⟩)]) 0 (xi _) ?_ ?_
 .repeat (refine Ba ?_;first|exact Be|refine Q5W ?_|refine Q6a ?_|refine Bc (ChunkLe.of (by rw[qsn];rfl)) ?_)
 .intro n hn;by_cases hlt:n<16
  .have hs:=qn7 v n 1 Q9V;have hd:=je9 v n;have hd1:=je9 v (n+1);have hst:∀k,k<16->k≠n->downM v n k=qb8 v 1 n k:=λk _ hk=>by unfold downM;rw[if_neg hk]
   by_cases hlt2:n+1<16
   .have hfin:bits .or .u64 (((dg v n / 2:Nat):Int)) (IntKind.u64.wrap (((dg v (n+1):Nat):Int)*2^63))=((qb8 v 1 (n+1) n:Nat):Int):=by
     have:=qyy (dg v n) (dg v (n+1)) 1 Q9V Q9V hd;rw[qiz,hs,<-this,qc4]
    repeat' (refine Ba ?_;first|refine Q5P ?_|refine Bg (by rw[xh];(try rw[IntWalk.i64_in _ Q9R]);omega) ?_|refine Bi n 1 (by first|rfl|(rw[show IntKind.i64.wrap (Int.tdiv 1 64)=0 by decide,IntWalk.i64_in _ Q9R];omega)) hlt ?_|refine Bi (n+1) 1 QaH hlt2 ?_|refine Bk _ (qaw (p:=n+1) hlt2 Qaj) ?_|refine Bk _ (qaw (f:=dg v) (p:=n) hlt Qaj) ?_|refine Bk (.int .u64 ((dg v n / 2:Nat):Int)) (by have:=qaw (o:=true) (f:=downM v n) (p:=n) (q:=n) hlt rfl;unfold downM at this;rw[if_pos rfl] at this;exact this) ?_|refine N.store ⟨true,16,[(0,16,.agg ⟨limL 16 (downM v n)⟩)]⟩ (qce (f:=qb8 v 1 n) (g:=downM v n) (p:=n) hlt Qaj (by unfold downM;rw[if_pos rfl];exact fd2 _) hst) ?_|refine N.store ⟨true,16,[(0,16,.agg ⟨limL 16 (qb8 v 1 (n+1))⟩)]⟩ (qce (f:=downM v n) (g:=qb8 v 1 (n+1)) (p:=n) hlt Qaj hfin λk hk hk1=>by rw[hst k hk hk1];exact(qf6 v 1 n k hk1).symm) ?_|refine Q6c ?_|fail)
    refine Ba ?_;refine N.next (n+1) ⟨by omega,by omega⟩ ?_;exact Q0D
   .obtain rfl:n=15:=by omega
    have hz15:dg v (15+1)=0:=qbt v 16 hv;repeat' (refine Ba ?_;first|refine Q5P ?_|refine Q6c ?_|refine Q66 ?_|refine Bi 15 1 (by first|rfl|decide) Q9V ?_|refine Bk _ (qaw (f:=dg v) (p:=15) Q9V Qaj) ?_|refine N.store ⟨true,16,[(0,16,.agg ⟨limL 16 (qb8 v 1 16)⟩)]⟩ (qce (f:=qb8 v 1 15) (g:=qb8 v 1 16) (p:=15) Q9V Qaj (by rw[qiz v 1 15,hs,hz15];exact(fd2 _).trans Qa2) λk _ hk1=>(qf6 v 1 15 k hk1).symm) ?_|fail)
    refine Ba ?_;refine N.next 16 ⟨by omega,by omega⟩ ?_;repeat (refine Ba ?_;first|exact Be|refine Q5W ?_|refine Q6a ?_|refine Bc (qax Q9V) ?_)
  .obtain rfl:n=16:=by omega
   refine Ba ?_;refine Bf Q9V ?_;rw[qwc];repeat' (refine Ba ?_;first|refine Q5P ?_|exact Be|refine Bc xb ?_|refine Q71 ?_|refine Bc (.plain (by simp[qam,qaf];rfl)) ?_|refine Q6c ?_|fail)
theorem qi1(n:Nat)(f:Nat->Nat):(limL n f).all lit1=true:=by simp[limL,lit1]
theorem qoi(n o:Bool)(v:Nat):(wiL n o v).all lit1=true:=by simp[wiL,qi1,lit1]
theorem jq9(i f v k:Nat)(kk:Int)(h:Hp)(h1:Has h i f v)(hk:k<64)(e:kk=(k:Nat)):qae prog 235 [.pointer (some ⟨i,f,some 0⟩),xc kk] h (.agg ⟨limL 16 (dg (v*2^k))⟩) [] [i]:=by
 subst e;exact cUp i f v k h h1 hk
theorem jnf:(2:Nat)^125=42535295865117307932921825928971026432:=by decide
theorem jng:(2:Nat)^126=85070591730234615865843651857942052864:=by decide
theorem jql:(2:Nat)^127=170141183460469231731687303715884105728:=by decide
theorem qso(h:n<2^127):n<Top:=xE h (yV (a:=2) Q9V (by decide:127<qh5))
theorem qlm(h:n<2^126):n<Top:=qso (by have:=jng;have:=jql;omega)
theorem qqx(v:Nat)(hv:v<2^126):isq v<9223372036854775808:=qi0 (n:=9223372036854775808) Qbb
theorem jbw(v:Nat)(hv:v<2^126)(w:World):xa 246 #[.agg ⟨wiL false false v⟩] w (.tuple #[.agg ⟨wiL false false (isq v)⟩,xc 0]):=by
 have hv16:v<Bs^16:=xE (qlm hv) qbr;have hbl:bl v<=126:=qoc v 126 hv16 hv;have hq:=qqx v hv;have htop:∀x:Nat,x<18446744073709551616->x<Top:=λx hx=>qlm Qbb
 refine qac (G:=tys) w tysOK mixed func246 Q9S (by simp[qag]) (by simp[qam,qag];rfl) ?_;by_cases h0:v=0
 .subst h0;repeat' (refine Ba ?_;first|refine Q5P ?_|with_reducible refine Bu _ (qf7 _ _ _ _ hv16 false rfl) ?_|refine Q6c ?_|fail)
  all_goals (rw[show isq 0=0 by decide])
 .have hk:(bl v+1) / 2<64:=by omega
  have hkk:IntKind.i64.wrap ((IntKind.i64.wrap (((bl v:Nat):Int)+1)).tdiv 2)=(((bl v+1) / 2:Nat):Int):=by
   rw[IntWalk.i64_in (((bl v:Nat):Int)+1) Q9R,Int.tdiv_eq_ediv_of_nonneg Q9R,IntWalk.i64_in _ Q9R];omega
  have hst:=qqw v hv16;have hqp:=q78 (v:=v) Q9R;repeat' (refine Ba ?_;first|refine Q5P ?_|with_reducible refine Bu _ (qf7 _ _ _ _ hv16 false rfl) ?_|refine Bf (by simp[h0];first|done|fail) ?_|refine Bb (jmg _ _ _ _ (qcv Q9S)) ?_|refine Bb (jq9 _ _ 1 ((bl v+1) / 2) _ _ (qsl Q9S) hk hkk) ?_|fail)
  refine Ba ?_;first
  |
   refine Bo (α:=Nat) (λx=>0<x/\x<18446744073709551616/\isq v<=x) (λx=>x) (λ_=>[]) (λx=>[(11,⟨true,16,[(0,16,.agg ⟨limL 16 (dg x)⟩)]⟩)]) (1*2^((bl v+1) / 2)) ⟨by omega,by
    have:2^((bl v+1) / 2)<2^64:=yV Q9V hk;have e:(2:Nat)^64=18446744073709551616:=by decide
    omega,by omega⟩ ?_ ?_
   .exact Q3g
   .exact Q0r
  |
   refine Bo (α:=Nat) (λx=>0<x/\x<18446744073709551616/\isq v<=x) (λx=>x) (λ_=>[]) (λx=>[(7,⟨true,16,[(0,16,.agg ⟨limL 16 (dg x)⟩)]⟩)]) (1*2^((bl v+1) / 2)) ⟨by omega,by
    have:2^((bl v+1) / 2)<2^64:=yV Q9V hk;have e:(2:Nat)^64=18446744073709551616:=by decide
    omega,by omega⟩ ?_ ?_
   .exact Q3g
   .exact Q0r
theorem wzn(n:Nat):wz (n:Int)=.agg ⟨wiL false false n⟩:=by unfold wz;rw[xf Q9R,y7]
theorem q55(v:Nat)(h:Hp)(hv:v<2^126):qae prog 246 [wz (v:Int)] h (.tuple #[wz (isq v:Nat),xc 0]) [] []:=
 qai Qae QaS (call246 _) λw=>by
  have:=jbw v hv w;rw[wzn,wzn];exact this
def cmz(a b:Int):Int:=if a<b then -1 else if b<a then 1 else 0
theorem q3d(v u:Nat)(hv:v<Top)(hu:u<Top)(w:World):xa 247 #[.agg ⟨wiL false false v⟩,.agg ⟨wiL false false u⟩] w (.tuple #[xc (cm v u),.bool true]):=Q1q
theorem q3e(v u:Nat)(hv:v<Top)(hu:u<Top)(w:World):xa 247 #[.agg ⟨wiL true false v⟩,.agg ⟨wiL true false u⟩] w (.tuple #[xc (cm u v),.bool true]):=Q1q
theorem q3f(v u:Nat)(hv:v<Top)(hu:u<Top)(w:World):xa 247 #[.agg ⟨wiL true false v⟩,.agg ⟨wiL false false u⟩] w (.tuple #[xc (-1),.bool true]):=Q1E
theorem q3g(v u:Nat)(hv:v<Top)(hu:u<Top)(w:World):xa 247 #[.agg ⟨wiL false false v⟩,.agg ⟨wiL true false u⟩] w (.tuple #[xc (1),.bool true]):=Q1E
theorem jof(a b:Int)(ha:a.natAbs<Top)(hb:b.natAbs<Top)(w:World):xa 247 #[wz a,wz b] w (.tuple #[xc (cmz a b),.bool true]):=by
 by_cases h1:a<0<;>by_cases h2:b<0
 .rw[qj3 h1,qj3 h2];have:=q3e a.natAbs b.natAbs ha hb w;rwa[show cm b.natAbs a.natAbs=cmz a b by unfold cm cmz;split<;>split<;>(try split)<;>(try split)<;>omega] at this
 .rw[qj3 h1,qj4 (by omega:0<=b)];have:=q3f a.natAbs b.natAbs ha hb w;rwa[show(-1:Int)=cmz a b by unfold cmz;rw[if_pos Q9R]] at this
 .rw[qj4 (by omega:0<=a),qj3 h2];have:=q3g a.natAbs b.natAbs ha hb w;rwa[show xc 1=xc (cmz a b) by unfold cmz;rw[if_neg Q9R,if_pos Q9R]] at this
 .rw[qj4 (by omega:0<=a),qj4 (by omega:0<=b)];have:=q3d a.natAbs b.natAbs ha hb w;rwa[show cm a.natAbs b.natAbs=cmz a b by unfold cm cmz;split<;>split<;>(try split)<;>(try split)<;>omega] at this
theorem jog(a b:Int)(h:Hp)(ha:a.natAbs<Top)(hb:b.natAbs<Top):qae prog 247 [wz a,wz b] h (.tuple #[xc (cmz a b),.bool true]) [] []:=
 qai Qae rfl (call247 _) (jof a b ha hb)
def usq(n:Nat):Nat:=if isq n*isq n<n then isq n+1 else isq n
theorem qzd(n:Nat):n<=usq n*usq n:=by
 unfold usq;have:=q53 n;split<;>omega
theorem qze(h:n<=m*m):usq n<=m:=by
 unfold usq;have h1:=qul n;split
 .rename_i h2;exact qsm (xl h2 h)
 .have:isq n*isq n<=m*m:=by omega
  rcases xP m (isq n) with h3|h3
  .have:=zx h3 h3;omega
  .exact h3
theorem q3h(n:Nat)(hn5:n<2^125)(w:World):xa 238 #[wz (n:Int)] w (.tuple #[xc (usq n:Nat),xc 0]):=by
 have hn:n<2^126:=by have:=jnf;have:=jng;omega
 have hq:=qqx n hn;have hle:=qul n;have hqt:((isq n:Nat):Int).natAbs<Top:=by rw[y7];exact qlm Qbb
 have hq16:=xE hqt qbr;have hmt:(((isq n:Nat):Int)*((isq n:Nat):Int)).natAbs<Top:=by rw[<-yn,y7];exact qlm (xQ hle hn)
 have hnt:((n:Nat):Int).natAbs<Top:=by rw[y7];exact qlm hn
 have h1t:(1:Int).natAbs<Top:=qlm (n:=1) Q9V;have hst:(((isq n:Nat):Int)+1).natAbs<Top:=by
  rw[show((isq n:Nat):Int)+1=((isq n+1:Nat):Int) from rfl,y7];exact qlm Qbb
 obtain⟨a1,a2⟩:=qm2 (z:=((isq n:Nat):Int)) (by clear hmt hnt hst hle;omega);obtain⟨b1,b2⟩:=qm2 (z:=((isq n:Nat):Int)+1) (by clear hmt hnt hst hle;have:isq n<9223372036854775807:=qi0 (by have:=jnf;omega);omega);have a3:e64 ((isq n:Nat):Int)=0:=by unfold e64;rw[a1];rfl
 have b3:e64 (((isq n:Nat):Int)+1)=0:=by unfold e64;rw[b1];rfl
 have hcm:cmz (((isq n:Nat):Int)*((isq n:Nat):Int)) (n:Int)<0↔isq n*isq n<n:=by
  have:((isq n*isq n:Nat):Int)=((isq n:Nat):Int)*((isq n:Nat):Int):=yn _ _;clear hqt hq16 hmt hnt h1t hst hle;generalize ((isq n:Nat):Int)*((isq n:Nat):Int)=A at *;generalize isq n*isq n=B at *;unfold cmz;split<;>(try split)<;>omega
 refine qac (G:=tys) w tysOK mixed func238 Q9S Q9U Q9T ?_;repeat' (refine Ba ?_;first|refine Q5P ?_|with_reducible (first|refine Bb (q55 _ _ hn) ?_|refine Bb (cMulz _ _ _ hq16 hq16 hmt) ?_|refine Bb (jog _ _ _ hmt hnt) ?_|refine Bb (cOfz _ _ Q9V Q9V) ?_|refine Bb (jhl _ _ _ hqt h1t hst) ?_|refine Bb (qh7 _ _ hqt) ?_|refine Bb (qh7 _ _ hst) ?_)|refine Q6c ?_|with_reducible refine Bj (λhb=>?_) (λhb=>?_)|fail)
 .rw[xh] at hb;rw[b2,b3];unfold usq;rw[if_pos (hcm.1 hb)];rfl
 .rw[xm] at hb;rw[a2,a3];unfold usq;rw[if_neg (λh=>hb (hcm.2 h))]
theorem qzf(n:Nat)(h:Hp)(hn:n<2^125):qae prog 238 [wz (n:Int)] h (.tuple #[xc (usq n:Nat),xc 0]) [] []:=
 qai Qae rfl (call238 _) (q3h n hn)
theorem qun(z:Int)(n:Nat)(h:Hp)(e:z=(n:Nat))(hn:n<2^125):qae prog 238 [wz z] h (.tuple #[xc (usq n:Nat),xc 0]) [] []:=by
 subst e;exact qzf n h hn
theorem jra(n:Int)(h1:n<9223372036854775808)(w:World):xa 216 #[xc n] w (xc (usq n.toNat:Nat)):=by
 have e:max 0 n=((n.toNat:Nat):Int):=by omega
 have hn:n.toNat<2^125:=by
  have:=jnf;omega
 refine qac (G:=tys) w tysOK mixed func216 Q9S Q9U Q9T ?_;repeat' (refine Ba ?_;first|refine Q5P ?_|refine Q6S ?_|refine Q74 ?_|with_reducible refine Bb (qun _ _ _ e hn) ?_|fail)
 all_goals rfl
theorem jrb(n:Int)(h:Hp)(h1:n<9223372036854775808):qae prog 216 [xc n] h (xc (usq n.toNat:Nat)) [] []:=
 qai rfl rfl (call216 _) (jra n h1)
open Go Go.RowKit Sx
theorem zt(h:z.natAbs<=1606938044258990275541962092341162602522202993782792835301376):z.natAbs<Top:=by
 have:(2:Nat)^201<Top:=yV (a:=2) Q9V (by decide:201<qh5);have e:(2:Nat)^201=3213876088517980551083924184682325205044405987565585670602752:=by decide
 omega
theorem zb(h:z.natAbs<=1606938044258990275541962092341162602522202993782792835301376):z.natAbs<Bs^16:=xE (zt h) qbr
theorem jhc{a b:Int}(ha:a.natAbs<=m)(hbb:b.natAbs<=n):(a*b).natAbs<=m*n:=by rw[y5];exact yz ha hbb
def qa1(m x y:Int):Prop:=(-m<=x/\x<=m)/\(-m<=y/\y<=m)
instance(m x y:Int):Decidable (qa1 m x y):=by unfold qa1;infer_instance
def mayP(cx cy a b d:Int):Prop:=qa1 4194304 cx cy/\(1<=a/\a<=70368744177664)/\(1<=d/\d<=70368744177664)/\(-70368744177664<=b/\b<=70368744177664)/\0<a*d-b*b
instance(cx cy a b d:Int):Decidable (mayP cx cy a b d):=by unfold mayP;infer_instance
def jk7(a b d:Int):Prop:=0<=a/\0<=d/\0<=a*d-b*b
instance(a b d:Int):Decidable (jk7 a b d):=by unfold jk7;infer_instance
def qup(a b d x y:Int):Prop:=jk7 (a-x*x) (b-x*y) (d-y*y)
instance(a b d x y:Int):Decidable (qup a b d x y):=by unfold qup;infer_instance
def inP(cx cy a b d x y:Int):Prop:=mayP cx cy a b d/\qa1 1073741824 x y/\qup a b d (x-cx) (y-cy)
instance(cx cy a b d x y:Int):Decidable (inP cx cy a b d x y):=by unfold inP;infer_instance
theorem q3i(x y m:Int)(hm:0<=m/\m<=1152921504606846976)(w:World):xa 62 #[.agg #[xc x,xc y],xc m] w (.bool (decide (qa1 m x y))):=by
 have hw:=je5 (0-m) Q9R Q9R;refine qac (G:=tys) w tysOK mixed func62 Q9S Q9U Q9T ?_;repeat' (refine Ba ?_;first|refine Q5P ?_|with_reducible refine Bj (λhb=>?_) (λhb=>?_)|fail)
 all_goals
  refine jf7 ?_
  try rw[hw] at *
  simp only[xh,xm,xG,false_iff,true_iff,iff_true,iff_false,reduceCtorEq,yj,xI,yk,xZ] at *
  try try rw[hw] at *
  simp only[qa1,jk7,mayP] at *
  omega
theorem qzg(x y m:Int)(h:Hp)(hm:0<=m/\m<=1152921504606846976):qae prog 62 [.agg #[xc x,xc y],xc m] h (.bool (decide (qa1 m x y))) [] []:=
 qai Q9Z Qag (call62 _) (q3i x y m hm)
theorem qwd(x y:Int)(w:World):xa 55 #[.agg #[xc x,xc y]] w (.bool (decide (qa1 4194304 x y))):=by
 refine qac (G:=tys) w tysOK mixed func55 Q9S Q9U Q9T ?_;repeat' (refine Ba ?_;first|refine Q5P ?_|with_reducible refine Bb (qzg _ _ _ _ Q9V) ?_|fail)
 all_goals rfl
theorem qgt(x y:Int)(h:Hp)  : qae prog 55 [.agg #[xc x,xc y]] h (.bool (decide (qa1 4194304 x y))) [] []:=
 qai Q9Z Qag (call55 _) (qwd x y )
theorem q79(a b:Int)(ha:a.natAbs<=9223372036854775807)(hbb:b.natAbs<=9223372036854775807)(w:World):xa 99 #[xc a,xc b] w (wz (a*b)):=by
 have h1:=jhc ha hbb;refine qac (G:=tys) w tysOK mixed func99 Q9S Q9U Q9T ?_;repeat' (refine Ba ?_;first|refine Q5P ?_|refine Q74 ?_|with_reducible refine Bb (cMulz _ _ _ (zb Q9R) (zb Q9R) (zt (xH h1 Q9V))) ?_|fail)
 all_goals rfl
theorem jbx(a b:Int)(h:Hp)(ha:a.natAbs<=9223372036854775807)(hbb:b.natAbs<=9223372036854775807):qae prog 99 [xc a,xc b] h (wz (a*b)) [] []:=
 qai Q9Z Qag (call99 _) (q79 a b ha hbb)
theorem jby(a b d:Int)(ha:a.natAbs<=18446744073709551616)(hbb:b.natAbs<=18446744073709551616)(hd:d.natAbs<=18446744073709551616)(w:World):xa 101 #[wz a,wz b,wz d] w (wz (a*d-b*b)):=by
 have h1:=jhc ha hd;have h2:=jhc hbb hbb;refine qac (G:=tys) w tysOK mixed func101 Q9S Q9U Q9T ?_;repeat' (refine Ba ?_;first|refine Q5P ?_|with_reducible (first|refine Bb (cMulz _ _ _ (zb Q9R) (zb Q9R) (zt (xH Qai Q9V))) ?_|refine Bb (jic _ _ _ (zt (xH h1 Q9V)) (zt (xH h2 Q9V)) (zt Q9R)) ?_)|fail)
 all_goals rfl
theorem cDetw(a b d:Int)(h:Hp)(ha:a.natAbs<=18446744073709551616)(hbb:b.natAbs<=18446744073709551616)(hd:d.natAbs<=18446744073709551616):qae prog 101 [wz a,wz b,wz d] h (wz (a*d-b*b)) [] []:=
 qai Q9Z Qag (call101 _) (jby a b d ha hbb hd)
theorem joh(a b d:Int)(ha:a.natAbs<=9223372036854775807)(hbb:b.natAbs<=9223372036854775807)(hd:d.natAbs<=9223372036854775807)(w:World):xa 66 #[.agg #[xc a,xc b,xc d]] w (wz (a*d-b*b)):=by
 refine qac (G:=tys) w tysOK mixed func66 Q9S Q9U Q9T ?_;repeat' (refine Ba ?_;first|refine Q5P ?_|refine Q74 ?_|with_reducible refine Bb (cDetw _ _ _ _ Q9R Q9R Q9R) ?_|fail)
 all_goals rfl
theorem jqm(a b d:Int)(h:Hp)(ha:a.natAbs<=9223372036854775807)(hbb:b.natAbs<=9223372036854775807)(hd:d.natAbs<=9223372036854775807):qae prog 66 [.agg #[xc a,xc b,xc d]] h (wz (a*d-b*b)) [] []:=
 qai Q9Z Qag (call66 _) (joh a b d ha hbb hd)
theorem joi(cx cy a b d:Int)(w:World):xa 24 #[.agg #[xc cx,xc cy,xc a,xc b,xc d]] w (.bool (decide (mayP cx cy a b d))):=by
 have s1:=qoh (a*d-b*b);refine qac (G:=tys) w tysOK mixed func24 Q9S Q9U Q9T ?_;repeat' (refine Ba ?_;first|refine Q5P ?_|with_reducible (first|refine Bb (qgt _ _ _) ?_|refine Bb (jqm _ _ _ _ Qat Qat Qat) ?_|refine Bb (jid _ _ (zt (by simp only[xh,xm] at *;have h1:=jhc (a:=a) (b:=d) (m:=70368744177664) (n:=70368744177664) Q9R Q9R;have h2:=jhc (a:=b) (b:=b) (m:=70368744177664) (n:=70368744177664) Q9R Q9R;omega))) ?_|refine Bj (λhb=>?_) λhb=>?_)|fail)
 all_goals
  refine jf7 ?_
  simp only[xh,xm,xG,false_iff,true_iff,iff_true,iff_false,reduceCtorEq,yj,xI,yk,xZ] at *
  try simp only[qa1,jk7,mayP] at *
  omega
theorem cEMay(cx cy a b d:Int)(h:Hp)  : qae prog 24 [.agg #[xc cx,xc cy,xc a,xc b,xc d]] h (.bool (decide (mayP cx cy a b d))) [] []:=
 qai Q9Z Qag (call24 _) (joi cx cy a b d )
theorem jk8{cx cy a b d:Int}(h:mayP cx cy a b d):(cx.natAbs<=4194304/\cy.natAbs<=4194304)/\a.natAbs<=140737488355328/\b.natAbs<=140737488355328/\d.natAbs<=140737488355328:=by
 unfold mayP qa1 at h;omega
theorem q8a(cx cy a b d:Int)(w:World):xa 21 #[.agg #[xc cx,xc cy,xc a,xc b,xc d]] w (xc (if mayP cx cy a b d then a+d else 0)):=by
 by_cases hm:mayP cx cy a b d
 .obtain⟨_,m1,m2,m3⟩:=jk8 hm;have e1:=je5 (a+d) Q9R Q9R;rw[if_pos hm];refine Q45 ?_;repeat' (refine Ba ?_;first|refine Q5P ?_|with_reducible refine Bb (cEMay _ _ _ _ _ _) ?_|refine Q6M ?_|fail)
  all_goals (rw[e1])
 .rw[if_neg hm];refine Q45 ?_;repeat' (refine Ba ?_;first|refine Q5P ?_|with_reducible refine Bb (cEMay _ _ _ _ _ _) ?_|refine Q6M ?_|fail)
  all_goals rfl
theorem qe0(cx cy a b d:Int)(h:Hp)  : qae prog 21 [.agg #[xc cx,xc cy,xc a,xc b,xc d]] h (xc (if mayP cx cy a b d then a+d else 0)) [] []:=
 qai Q9Z Qa6 (call21 _) (q8a cx cy a b d )
abbrev trP(cx cy a b d:Int):Int:=if mayP cx cy a b d then a+d else 0
theorem joj(cx cy a b d:Int):(if mayP cx cy a b d then a+d else 0)<9223372036854775808:=by
 split
 .rename_i hm;have:=jk8 hm;omega
 .omega
theorem q3j(cx cy a b d:Int)(w:World):xa 198 #[.agg #[xc cx,xc cy,xc a,xc b,xc d]] w (xc (usq (trP cx cy a b d).toNat:Nat)):=by
 refine qac (G:=tys) w tysOK mixed func198 Q9S Q9Z Qa6 ?_;repeat' (refine Ba ?_;first|refine Q5P ?_|with_reducible (first|refine Bb (qe0 _ _ _ _ _ _) ?_|refine Bb (jrb _ _ (joj cx cy a b d)) ?_)|fail)
 all_goals rfl
theorem qsp(cx cy a b d:Int)(h:Hp)  : qae prog 198 [.agg #[xc cx,xc cy,xc a,xc b,xc d]] h (xc (usq (trP cx cy a b d).toNat:Nat)) [] []:=
 qai Q9Z Qa6 (call198 _) (q3j cx cy a b d )
theorem qzh(r:Int)(w:World):xa 56 #[xc r] w (.bool (decide (1<=r/\r<=4194304))):=by
 refine qac (G:=tys) w tysOK mixed func56 Q9S Q9U Q9T ?_;exact Q1K
theorem jqn(r:Int)(h:Hp)  : qae prog 56 [xc r] h (.bool (decide (1<=r/\r<=4194304))) [] []:=
 qai Q9Z Qag (call56 _) (qzh r )
theorem jok(n:Int)(w:World):xa 243 #[xc n] w (.bool (decide (-2305843009213693952<=n/\n<=2305843009213693952))):=by
 refine qac (G:=tys) w tysOK mixed func243 Q9S Q9U Q9T ?_;exact Q1K
theorem jrc(n:Int)(h:Hp)  : qae prog 243 [xc n] h (.bool (decide (-2305843009213693952<=n/\n<=2305843009213693952))) [] []:=
 qai Q9Z Qag (call243 _) (jok n )
def jgt(a b d:Int):Prop:=(-2305843009213693952<=a/\a<=2305843009213693952)/\(-2305843009213693952<=b/\b<=2305843009213693952)/\(-2305843009213693952<=d/\d<=2305843009213693952)
instance(a b d:Int):Decidable (jgt a b d):=by unfold jgt;infer_instance
theorem jbz(a b d:Int)(w:World):xa 224 #[.agg #[xc a,xc b,xc d]] w (.bool (decide (jgt a b d))):=by
 refine qac (G:=tys) w tysOK mixed func224 Q9S Q9U Q9T ?_;repeat' (refine Ba ?_;first|refine Q5P ?_|with_reducible (first|refine Bb (jrc _ _) ?_|refine Bj (λhb=>?_) λhb=>?_)|fail)
 all_goals
  refine jf7 ?_
  simp only[xh,xm,xG,false_iff,true_iff,iff_true,iff_false,reduceCtorEq,yj,xI,yk,xZ] at *
  try simp only[jgt] at *
  omega
theorem jol(a b d:Int)(h:Hp)  : qae prog 224 [.agg #[xc a,xc b,xc d]] h (.bool (decide (jgt a b d))) [] []:=
 qai Q9Z Qag (call224 _) (jbz a b d )
def q56(a b d p q r:Int):Prop:=jgt a b d/\jgt p q r/\jk7 (a-p) (b-q) (d-r)
instance(a b d p q r:Int):Decidable (q56 a b d p q r):=by unfold q56;infer_instance
def jf9(a b d x y:Int):Int:=(a*(x*x)+d*(y*y))+(b*(x*y)+b*(x*y))
theorem jb0(a b d x y:Int)(ha:a.natAbs<=140737488355328)(hbb:b.natAbs<=140737488355328)(hd:d.natAbs<=140737488355328)(hx:x.natAbs<=16777216)(hy:y.natAbs<=16777216)(w:World):xa 210 #[.agg #[xc a,xc b,xc d],.agg #[xc x,xc y]] w (wz (jf9 a b d x y)):=by
 have h1:=jhc hx hx;have h2:=jhc hx hy;have h3:=jhc hy hy;have k1:=jhc ha h1;have k2:=jhc hbb h2;have k3:=jhc hd h3;refine qac (G:=tys) w tysOK mixed func210 Q9S Q9U Q9T ?_;repeat' (refine Ba ?_;first|refine Q5P ?_|refine Q74 ?_|with_reducible (first|refine Bb (jbx _ _ _ Q9R Q9R) ?_|refine Bb (cMulz _ _ _ (zb Q9R) (zb (xH Qai Q9V)) (zt (xH Qai Q9V))) ?_|refine Bb (jhl _ _ _ (zt Q9R) (zt Q9R) (zt Q9R)) ?_)|fail)
 all_goals rfl
theorem jmi(a b d x y:Int)(h:Hp)(ha:a.natAbs<=140737488355328)(hbb:b.natAbs<=140737488355328)(hd:d.natAbs<=140737488355328)(hx:x.natAbs<=16777216)(hy:y.natAbs<=16777216):qae prog 210 [.agg #[xc a,xc b,xc d],.agg #[xc x,xc y]] h (wz (jf9 a b d x y)) [] []:=
 qai Q9Z Qag (call210 _) (jb0 a b d x y ha hbb hd hx hy)
theorem q8b{a b d x y:Int}(ha:1<=a)(hdet:0<=a*d-b*b):0<=jf9 a b d x y:=by
 have h1:0<=(a*x+b*y)*(a*x+b*y):=by rcases Int.le_total 0 (a*x+b*y) with h|h;exact yi h h;exact Int.mul_nonneg_of_nonpos_of_nonpos h h
 have h2:0<=(a*d-b*b)*(y*y):=yi hdet (by rcases Int.le_total 0 y with h|h;exact yi h h;exact Int.mul_nonneg_of_nonpos_of_nonpos h h);have e:a*jf9 a b d x y=(a*x+b*y)*(a*x+b*y)+(a*d-b*b)*(y*y):=by unfold jf9;grind
 refine Int.not_lt.1 λh=>?_
 have:=Int.mul_neg_of_pos_of_neg (by omega:0<a) h;omega
theorem jb1{a b d x y:Int}(ha:a.natAbs<=140737488355328)(hbb:b.natAbs<=140737488355328)(hd:d.natAbs<=140737488355328)(hx:x.natAbs<=16777216)(hy:y.natAbs<=16777216):(jf9 a b d x y).natAbs<=158456325028528675187087900672:=by
 have h1:=jhc hx hx;have h2:=jhc hx hy;have h3:=jhc hy hy;have k1:=jhc ha h1;have k2:=jhc hbb h2;have k3:=jhc hd h3;unfold jf9;omega
def alongN(a b d x y:Int):Nat:=usq (jf9 a b d x y).toNat
theorem q3k(cx cy a b d x y:Int)(hm:mayP cx cy a b d)(hw:qa1 16777216 x y)(w:World):xa 217 #[.agg #[xc cx,xc cy,xc a,xc b,xc d],.agg #[xc x,xc y]] w (.tuple #[xc (alongN a b d x y:Nat),xc 0]):=by
 obtain⟨_,m1,m2,m3⟩:=jk8 hm;have hw1:=hw;unfold qa1 at hw1;have hm1:=hm;unfold mayP at hm1;have q1:=q8b (x:=x) (y:=y) hm1.2.1.1 (Int.le_of_lt hm1.2.2.2.2);have q2:=jb1 (x:=x) (y:=y) m1 m2 m3 Q9R Q9R;refine qac (G:=tys) w tysOK mixed func217 Q9S Q9Z Qa6 ?_;repeat' (refine Ba ?_;first|refine Q5P ?_|with_reducible (first|refine Bb (cEMay _ _ _ _ _ _) ?_|refine Bb (qzg _ _ _ _ Q9V) ?_|refine Bb (jmi _ _ _ _ _ _ m1 m2 m3 Q9R Q9R) ?_|refine Bb (qun _ (jf9 a b d x y).toNat _ Q9R (by have:=jnf;omega)) ?_)|refine Bf (by rw[xg Qai];rfl) ?_|fail)
 all_goals rfl
theorem q8c(cx cy a b d x y:Int)(h:Hp)(hm:mayP cx cy a b d)(hw:qa1 16777216 x y):qae prog 217 [.agg #[xc cx,xc cy,xc a,xc b,xc d],.agg #[xc x,xc y]] h (.tuple #[xc (alongN a b d x y:Nat),xc 0]) [] []:=
 qai Q9Z Qa6 (call217 _) (q3k cx cy a b d x y hm hw)
theorem q8d(x y r:Int)(hw:qa1 4194304 x y)(hr0:1<=r/\r<=4194304)(w:World):xa 14 #[.agg #[xc x,xc y],xc r] w (.tuple #[.agg #[xc x,xc y,xc (r*r),xc 0,xc (r*r)],xc 0]):=by
 have k1:=jhc (a:=r) (b:=r) (m:=4194304) (n:=4194304) Q9R Q9R;have e1:=je5 (r*r) Q9R Q9R;refine Q46 ?_;repeat' (refine Ba ?_;first|refine Q5P ?_|with_reducible (first|refine Bb (qgt _ _ _) ?_|refine Bb (jqn _ _) ?_)|refine Q6M ?_|fail)
 all_goals (rw[e1])
theorem quq(x y r:Int)(h:Hp)(hw:qa1 4194304 x y)(hr0:1<=r/\r<=4194304):qae prog 14 [.agg #[xc x,xc y],xc r] h (.tuple #[.agg #[xc x,xc y,xc (r*r),xc 0,xc (r*r)],xc 0]) [] []:=
 qai Q9Z Qa6 (call14 _) (q8d x y r hw hr0)
theorem q8e(x y r:Int)(hn:¬ (qa1 4194304 x y/\(1<=r/\r<=4194304)))(w:World):xa 14 #[.agg #[xc x,xc y],xc r] w (.tuple #[.agg #[xc 0,xc 0,xc 0,xc 0,xc 0],xc 1]):=by
 by_cases hc0:qa1 4194304 x y;rotate_left
 .skip;exact Q1A
 have hc1:¬ (1<=r/\r<=4194304):=λh=>hn ⟨hc0,h⟩
 exact Q1A
theorem jb2(x y r:Int)(h:Hp)(hn:¬ (qa1 4194304 x y/\(1<=r/\r<=4194304))):qae prog 14 [.agg #[xc x,xc y],xc r] h (.tuple #[.agg #[xc 0,xc 0,xc 0,xc 0,xc 0],xc 1]) [] []:=
 qai Q9Z Qa6 (call14 _) (q8e x y r hn)
abbrev elV(x y a b d:Int):Value:=.agg #[xc x,xc y,xc a,xc b,xc d]
abbrev jom(t:Int):Prop:=0<=t/\t<=1000000
def Ent.put(e:Ent)(x y a b d w:Int):Ent:=⟨e.node,e.boot,e.heard,true,x,y,a,b,d,w⟩
theorem jon(T:Tbl)(n x y a b d w:Int)(hn : -9223372036854775808<=n/\n<=9223372036854775807)(hg:dGet T.E n=none)(i:Nat)(h:Hp)(hi:h[i]?=some (some (tblC T))):
  qae prog 119 [xd i,xc n,elV x y a b d,xc w] h (xc 7) [(i,tblC (T))] []:=by
 refine qar (G:=tys) (qba T.lives) (jgs T) [⟨i,tblC T,tblC T,tblC (T)⟩] [] [xd 0,xc n,elV x y a b d,xc w] tysOK mixed func119 Q9S (call119) ⟨hi,xb⟩ ⟨Q7X,xb⟩ Q9X Q81 xb Q8C qau ?_
 intro β hβ
 repeat' (refine Ba ?_;first|refine Q5V ?_|refine Q5R ?_|refine Q7B ?_|refine Q6e ?_|refine Bg (show(!false)=true from rfl) ?_|refine Q5Z ?_|exact Be|fail)
theorem joo(T:Tbl)(n x y a b d w:Int)(hn : -9223372036854775808<=n/\n<=9223372036854775807)(e:Ent)(hg:dGet T.E n=some e)(hm:mayP x y a b d)(hw:jom w)(i:Nat)(h:Hp)(hi:h[i]?=some (some (tblC T))):
  qae prog 119 [xd i,xc n,elV x y a b d,xc w] h (xc 0) [(i,tblC (⟨T.most,dPut T.E n (e.put x y a b d w),T.lives⟩))] []:=by
 refine qar (G:=tys) (qba T.lives) (jgs T) [⟨i,tblC T,tblC T,tblC (⟨T.most,dPut T.E n (e.put x y a b d w),T.lives⟩)⟩] [] [xd 0,xc n,elV x y a b d,xc w] tysOK mixed func119 Q9S (call119) ⟨hi,xb⟩ ⟨Q7X,xb⟩ Q9X Q81 xb Q8C qau ?_
 intro β hβ
 repeat' (refine Ba ?_;first|refine Q5V ?_|refine Q5R ?_|refine Q7v ?_|refine Bf (by rw[xg hw];rfl) ?_|refine Q7H ?_|refine Bb (cEMay x y a b d _) ?_|refine Bb (qe7 w _) ?_|refine jgx entV T.E (e.put x y a b d w) rfl rfl hn rfl underlying128 underlying3 ?_|refine qb3 (⟨T.most,dPut T.E n (e.put x y a b d w),T.lives⟩) β 0 1 2 [] qbw (λi hi=>.inl Qa4) hβ Q9S Q9S Q9S Q9S Q9S Q9S Q9S Q9S Q9S Q9V (λk hk=>by cases hk) jg8 (qbn rfl) ?_|refine Bf (show(!true)=false from rfl) ?_|refine Q5Z ?_|exact Be|fail)
open Go Go.RowKit Sx
variable{p:Nat->Prop}
theorem lt2(h0:p 0)(h1:p 1):∀j,j<2->p j:=λj hj=>by
 match j,hj with
 | 0,_=>exact h0
 | 1,_=>exact h1
theorem lt7(h0:p 0)(h1:p 1)(h2:p 2)(h3:p 3)(h4:p 4)(h5:p 5)(h6:p 6):∀j,j<7->p j:=λj hj=>by
 match j,hj with
 | 0,_=>exact h0
 | 1,_=>exact h1
 | 2,_=>exact h2
 | 3,_=>exact h3
 | 4,_=>exact h4
 | 5,_=>exact h5
 | 6,_=>exact h6
abbrev fiC(m:Int)(v:Bool)(x y a b d:Int):Chunk:=⟨true,7,[(0,7,.agg #[xc m,.bool v,xc x,xc y,xc a,xc b,xc d])]⟩
abbrev twC(n l:Int):Chunk:=⟨true,2,[(0,2,.agg #[xc n,xc l])]⟩
theorem re7{m:Int}{v:Bool}{x y a b d:Int}:qbg ix (fiC m v x y a b d) (fiC m v x y a b d):=Qay
theorem re2{m n:Int}:qbg ix (twC m n) (twC m n):=lt2 (.plain rfl) (.plain rfl)
theorem qzi(m:Int)(K:Nat)(h:Hp)(h0:h[K]?=some none)  : qae prog 25 [xc m] h (xd K) [(K,fiC (max 2 m) false 0 0 0 0 0)] []:=by
 refine qak (G:=tys) [] [⟨K,4,fiC (max 2 m) false 0 0 0 0 0⟩] [xc m] tysOK mixed func25 Q9S (call25) xb xb xb ⟨⟨h0,rfl,(by show 0<7;decide),by simp⟩,xb⟩ ⟨.plain rfl,xb⟩ ?_;repeat' (refine Ba ?_;first|refine Q5P ?_|refine Q6S ?_|refine Bc (.one (.ptr Q9S)) ?_|refine Bc ⟨⟨xi _,_,rfl,id,nlr _,Qay⟩,xb⟩ ?_|refine Bc xb ?_|exact Be|fail)
theorem qi2(m:Int)(v:Bool)(x y a b d:Int)(i:Nat)(h:Hp)(hi:h[i]?=some (some (fiC m v x y a b d)))  : qae prog 39 [xd i] h (.bool v) [(i,fiC m v x y a b d)] []:=by
 refine qak (G:=tys) [⟨i,_,fiC m v x y a b d,fiC m v x y a b d⟩] [] [xd 0] tysOK mixed func39 Q9S (call39) ⟨hi,xb⟩ ⟨Q8t,xb⟩ Q9X xb ⟨.ptr rfl,xb⟩ ?_;exact Q1f
theorem jrd(m:Int)(v:Bool)(x y a b d:Int)(i:Nat)(h:Hp)(hi:h[i]?=some (some (fiC m v x y a b d)))  : qae prog 41 [xd i] h (elV x y a b d) [(i,fiC m v x y a b d)] []:=by
 refine qak (G:=tys) [⟨i,_,fiC m v x y a b d,fiC m v x y a b d⟩] [] [xd 0] tysOK mixed func41 Q9S (call41) ⟨hi,xb⟩ ⟨Q8t,xb⟩ Q9X xb ⟨.ptr rfl,xb⟩ ?_;exact Q1f
theorem qzj(m:Int)(v:Bool)(x y a b d:Int)(x' y' a' b' d':Int)(i:Nat)(h:Hp)(hi:h[i]?=some (some (fiC m v x y a b d)))(hm:¬ mayP x' y' a' b' d'):qae prog 30 [xd i,elV x' y' a' b' d'] h (xc 1) [(i,fiC m v x y a b d)] []:=by
 refine qak (G:=tys) [⟨i,_,fiC m v x y a b d,fiC m v x y a b d⟩] [] [xd 0,elV x' y' a' b' d'] tysOK mixed func30 Q9S (call30) ⟨hi,xb⟩ ⟨Q8t,xb⟩ Q9X xb Q83 ?_;repeat' (refine Ba ?_;first|refine Q5P ?_|refine Bb (cEMay x' y' a' b' d' _) ?_|refine Bg (by rw[xf hm];rfl) ?_|refine Q6q ?_|refine Q69 ?_|exact Be|fail)
theorem qzk(m:Int)(v:Bool)(x y a b d:Int)(x' y' a' b' d':Int)(i:Nat)(h:Hp)(hi:h[i]?=some (some (fiC m v x y a b d)))(hm:mayP x' y' a' b' d')(ho:m<a'+d'):qae prog 30 [xd i,elV x' y' a' b' d'] h (xc 2) [(i,fiC m v x y a b d)] []:=by
 refine qak (G:=tys) [⟨i,_,fiC m v x y a b d,fiC m v x y a b d⟩] [] [xd 0,elV x' y' a' b' d'] tysOK mixed func30 Q9S (call30) ⟨hi,xb⟩ ⟨Q8t,xb⟩ Q9X xb Q83 ?_;repeat' (refine Ba ?_;first|refine Q5P ?_|refine Bb (cEMay x' y' a' b' d' _) ?_|refine Bb (qe0 x' y' a' b' d' _) ?_|refine Q7v ?_|refine Bg (by rw[if_pos hm,xh];omega) ?_|refine Q6q ?_|refine Q69 ?_|exact Be|fail)
theorem qzl(m:Int)(v:Bool)(x y a b d:Int)(x' y' a' b' d':Int)(i:Nat)(h:Hp)(hi:h[i]?=some (some (fiC m v x y a b d)))(hm:mayP x' y' a' b' d')(ho:¬ m<a'+d'):qae prog 30 [xd i,elV x' y' a' b' d'] h (xc 0) [(i,fiC m true x' y' a' b' d')] []:=by
 refine qak (G:=tys) [⟨i,_,fiC m v x y a b d,fiC m true x' y' a' b' d'⟩] [] [xd 0,elV x' y' a' b' d'] tysOK mixed func30 Q9S (call30) ⟨hi,xb⟩ ⟨Q8t,xb⟩ Q9X xb Q83 ?_;repeat' (refine Ba ?_;first|refine Q5P ?_|refine Bb (cEMay x' y' a' b' d' _) ?_|refine Bb (qe0 x' y' a' b' d' _) ?_|refine Q7v ?_|refine Bf (by rw[if_pos hm,xm];omega) ?_|refine Q6q ?_|refine Q69 ?_|exact Be|fail)
theorem qzm(n:Int)(K:Nat)(h:Hp)(h0:h[K]?=some none)  : qae prog 27 [xc n] h (xd K) [(K,twC (max 0 (min n 1000)) (max 0 (min n 1000)))] []:=by
 refine qak (G:=tys) [] [⟨K,0,twC (max 0 (min n 1000)) (max 0 (min n 1000))⟩] [xc n] tysOK mixed func27 Q9S (call27) xb xb xb ⟨⟨h0,rfl,(by show 0<2;decide),by simp⟩,xb⟩ ⟨.plain rfl,xb⟩ ?_;exact Q29
theorem qsq(n l:Int)(i:Nat)(h:Hp)(hi:h[i]?=some (some (twC n l)))  : qae prog 36 [xd i] h (.tuple #[]) [(i,twC n n)] []:=by
 refine qak (G:=tys) [⟨i,_,twC n l,twC n n⟩] [] [xd 0] tysOK mixed func36 Q9S (call36) ⟨hi,xb⟩ ⟨Q8o,xb⟩ Q9X xb ⟨.ptr rfl,xb⟩ ?_;exact Q2h
theorem qzn(n l:Int)(i:Nat)(h:Hp)(hi:h[i]?=some (some (twC n l)))  : qae prog 105 [xd i] h (xc l) [(i,twC n l)] []:=by
 refine qak (G:=tys) [⟨i,_,twC n l,twC n l⟩] [] [xd 0] tysOK mixed func105 Q9S (call105) ⟨hi,xb⟩ ⟨Q8o,xb⟩ Q9X xb ⟨.ptr rfl,xb⟩ ?_;exact Q2h
theorem q3l(n l:Int)(i:Nat)(h:Hp)(hi:h[i]?=some (some (twC n l)))(hl:l=0):qae prog 69 [xd i] h (.bool false) [(i,twC n l)] []:=by
 refine qak (G:=tys) [⟨i,_,twC n l,twC n l⟩] [] [xd 0] tysOK mixed func69 Q9S (call69) ⟨hi,xb⟩ ⟨Q8o,xb⟩ Q9X xb ⟨.ptr rfl,xb⟩ ?_;repeat' (refine Ba ?_;first|refine Q5P ?_|refine Bb (qzn n l 0 _ Q9S) ?_|refine Bg (by rw[hl];rfl) ?_|refine Q6q ?_|refine Q6J ?_|exact Be|fail)
theorem qdz(n l:Int)(i:Nat)(h:Hp)(hi:h[i]?=some (some (twC n l)))(hl:l≠0)(hb : -9223372036854775808<l/\l<=9223372036854775807):qae prog 69 [xd i] h (.bool true) [(i,twC n (l-1))] []:=by
 have hw:=je5 (l-1) Q9R Q9R;rw[<-hw];refine qak (G:=tys) [⟨i,_,twC n l,twC n (IntKind.i64.wrap (l-1))⟩] [] [xd 0] tysOK mixed func69 Q9S (call69) ⟨hi,xb⟩ ⟨Q8o,xb⟩ Q9X xb ⟨.ptr rfl,xb⟩ ?_;repeat' (refine Ba ?_;first|refine Q5P ?_|refine Bb (qzn n l 0 _ Q9S) ?_|refine Bf Qaf ?_|refine Q6q ?_|refine Q6J ?_|exact Be|fail)
theorem qzo(e:Int)(K:Nat)(h:Hp)(h0:h[K]?=some none)  : qae prog 28 [xc e] h (xd K) [(K,twC (max 1 (min e 1000000)) 0)] []:=by
 refine qak (G:=tys) [] [⟨K,8,twC (max 1 (min e 1000000)) 0⟩] [xc e] tysOK mixed func28 Q9S (call28) xb xb xb ⟨⟨h0,rfl,(by show 0<2;decide),by simp⟩,xb⟩ ⟨.plain rfl,xb⟩ ?_;exact Q29
theorem q8f(e x n:Int)(i:Nat)(h:Hp)(hi:h[i]?=some (some (twC e x)))(hd:n<x\/1000000<n):qae prog 38 [xd i,xc n] h (.bool false) [(i,twC e x)] []:=by
 refine qak (G:=tys) [⟨i,_,twC e x,twC e x⟩] [] [xd 0,xc n] tysOK mixed func38 Q9S (call38) ⟨hi,xb⟩ ⟨Q8o,xb⟩ Q9X xb Q83 ?_;repeat' (refine Ba ?_;first|refine Q5P ?_|(have hb2:=of_decide_eq_false hb;refine Bg (xg Q9R) ?_)|refine Bj (λhb=>?_) (λhb=>?_)|refine Q6q ?_|refine Q6J ?_|exact Be|fail)
theorem qln(e x n:Int)(i:Nat)(h:Hp)(hi:h[i]?=some (some (twC e x)))(hd:¬ n<x/\¬ 1000000<n)(hb : -9223372036854775808<=n+e/\n+e<=9223372036854775807):qae prog 38 [xd i,xc n] h (.bool true) [(i,twC e (n+e))] []:=by
 have hw:=je5 (n+e) Q9R Q9R;rw[<-hw];refine qak (G:=tys) [⟨i,_,twC e x,twC e (IntKind.i64.wrap (n+e))⟩] [] [xd 0,xc n] tysOK mixed func38 Q9S (call38) ⟨hi,xb⟩ ⟨Q8o,xb⟩ Q9X xb Q83 ?_;repeat' (refine Ba ?_;first|refine Q5P ?_|refine Q6L ?_|refine Q6q ?_|refine Q6J ?_|exact Be|fail)
end Go.Proofs.YtfkngpmgcimdbaaGreat
