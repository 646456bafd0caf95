/-
  The jaq of All: all entries, by their nodes.
-/
import Derived.Test.YtggfpcfkbilkmaaGreatDoorRows
import Derived.Laws.Rows
import Derived.StillTailTactics
import Derived.Laws.CopyOwn
import Derived.Shelf.Small.Bits
import Derived.Shelf.Strconv.Itoa0
import Derived.Shelf.Bits.Mul64
import Derived.Laws.Externs
import Derived.Shelf.Spec.BitsCarry
import Derived.WalkKit
import Derived.Test.YtggfpcfkbilkmaaGreatDoorProg
import Derived.BigQuiet
import Derived.Deep.QuietTactic
import Derived.Deep.RegionHeld3
import Derived.Lib.EndianBits
import Derived.IntWalk
import Derived.Test.YtggfpcfkbilkmaaGreatDoorC3
set_option linter.unusedVariables false
set_option linter.unusedSimpArgs false
set_option maxRecDepth 100000
set_option maxHeartbeats 20000000
theorem Go.Proofs.yc:type_of% @Nat.mul_le_mul:=@Nat.mul_le_mul
theorem Go.Proofs.xg:type_of% @decide_eq_true:=@decide_eq_true
theorem Go.Proofs.xK:type_of% @Nat.div_add_mod:=@Nat.div_add_mod
theorem Go.Proofs.xn:type_of% @Nat.mul_comm:=@Nat.mul_comm
theorem Go.Proofs.xV:type_of% @Nat.mul_assoc:=@Nat.mul_assoc
theorem Go.Proofs.yd:type_of% @Nat.pow_pos:=@Nat.pow_pos
theorem Go.Proofs.yw:type_of% @Nat.pow_succ:=@Nat.pow_succ
theorem Go.Proofs.yx:type_of% @Nat.div_div_eq_div_mul:=@Nat.div_div_eq_div_mul
theorem Go.Proofs.xW:type_of% @Nat.div_eq_of_lt:=@Nat.div_eq_of_lt
theorem Go.Proofs.xN:type_of% @Nat.pow_add:=@Nat.pow_add
theorem Go.Proofs.yH:type_of% @Nat.mod_one:=@Nat.mod_one
theorem Go.Proofs.xX:type_of% @Nat.mod_eq_of_lt:=@Nat.mod_eq_of_lt
theorem Go.Proofs.yq:type_of% @Nat.div_lt_iff_lt_mul:=@Nat.div_lt_iff_lt_mul
theorem Go.Proofs.yS:type_of% @Nat.mul_add_div:=@Nat.mul_add_div
theorem Go.Proofs.yT:type_of% @Nat.mul_add_mod:=@Nat.mul_add_mod
theorem Go.Proofs.yU:type_of% @Nat.le_self_pow:=@Nat.le_self_pow
theorem Go.Proofs.za:type_of% @Int.eq_ofNat_of_zero_le:=@Int.eq_ofNat_of_zero_le
theorem Go.Proofs.xl:type_of% @decide_eq_false:=@decide_eq_false
theorem Go.Proofs.yi:type_of% @Nat.pow_le_pow_right:=@Nat.pow_le_pow_right
theorem Go.Proofs.yI:type_of% @Nat.div_le_self:=@Nat.div_le_self
theorem Go.Proofs.zc:type_of% @Nat.mul_lt_mul_of_pos_right:=@Nat.mul_lt_mul_of_pos_right
theorem Go.Proofs.y2:type_of% @Int.natAbs_mul:=@Int.natAbs_mul
open Go.Proofs.Tryz
namespace Go.Proofs
section
variable{Z Y:Prop}
theorem Q00(h:Z:=by
 have G:=Knuth.first (u:=v) (d:=d0) y1a y1b y0h d0h Q5z;have hq1:=G.le;have hq2:=G.sum;have hr1:=xA v (show 0<y1 by omega);have f8:(v:Int).tdiv y1=((v / y1:Nat):Int):=rfl;have f8':(v:Int) / y1=((v / y1:Nat):Int):=rfl;generalize v / y1=q0 at *;generalize v%y1=r0 at *;have hqy:((q0*y1:Nat):Int)=(q0:Int)*(y1:Int):=x5 _ _;have f9:IntKind.u64.wrap ((q0:Int)*(y1:Int))=((q0*y1:Nat):Int):=by rw[xm,<-hqy];omega
 have f10:IntKind.u64.wrap ((v:Int)-((q0*y1:Nat):Int))=(r0:Int):=by rw[xm];omega
 have f11:IntKind.u64.wrap (q0:Int)=(q0:Int):=by rw[xm];simp only[Knuth.h] at hq1;omega
 generalize hqq:q0*y1=qy at *;clear hqy hqq hq2
 go_wp2_with fail
 clear f8 f8' f9 f10 f11 a1 a2 a3 a4 e1 e2 e3 e5;have hr2':r0<4294967296:=by omega
 have HG':=Lib.hid G;clear G hq1 hr1 HG hr2 HH HS;have hr2:=hr2';have HG:=HG';clear hr2' HG'
 go_loopw [16,18] (λa b wr=>wr=w/\∃q r:Nat,b=.int .u64 q/\a=.int .u64 r/\r<4294967296/\Hid (Knuth.Guess y1 y0 v d0 q r)) (λa b _=>(intOf b).toNat)
 case atStart=>exact⟨rfl,_,_,rfl,rfl,hr2,HG⟩
 case round=>
  clear HG hr2
  obtain⟨e0,q,r,rfl,rfl,hr2,HG⟩:=hrel
  have e0':=e0.symm
  clear e0
  subst e0'
  have hu':v<y1*Knuth.h+y0:=by have:=HE.out.1;show v<y1*4294967296+y0;omega
  have hq1:q<=4294967297:=HG.out.le
  obtain⟨m,hm⟩:∃m:Nat,q*y0=m:=⟨_,rfl⟩
  have hm1:m<=4294967297*4294967295:=by rw[<-hm];exact yc hq1 Q4L
  have e1:IntKind.u64.wrap ((q:Int)*(y0:Int))=(m:Int):=by
   rw[<-x5,hm,xm];omega
  obtain⟨k0,hk0⟩:∃k:Nat,4294967296*r=k:=⟨_,rfl⟩
  have e2:IntKind.u64.wrap (4294967296*(r:Int))=(k0:Int):=by rw[xm];omega
  obtain⟨k,hk⟩:∃k:Nat,k0+d0=k:=⟨_,rfl⟩
  have e3:IntKind.u64.wrap ((k0:Int)+(d0:Int))=(k:Int):=by rw[xm];omega
  have hkk:Knuth.h*r+d0=k:=by simp only[Knuth.h];omega
  have hdn:Knuth.h<=q\/k<m->0<q/\Knuth.Guess y1 y0 v d0 (q-1) (r+y1):=λht=>Knuth.down d0h hu' HG.out (by rw[hkk,hm];exact ht)
  have hst:q<Knuth.h->m<=k->q=(v*Knuth.h+d0) / (y1*Knuth.h+y0):=λh1 h2=>Knuth.stop d0h hu' HG.out h1 (by rw[hkk,hm];exact h2)
  obtain⟨r',hr'⟩:∃r',r+y1=r':=⟨_,rfl⟩
  have e5:IntKind.u64.wrap ((r:Int)+(y1:Int))=(r':Int):=by rw[xm];omega
  have hr3:r'<18446744073709551616:=by omega
  rw[hr'] at hdn
  have HH:=Lib.hid hdn
  have HS:=Lib.hid hst
  have hq64:(q:Int)<18446744073709551616:=by omega
  clear hm hk0 hk hkk hdn hst hm1 hr'
  by_cases hA:4294967296<=q
  .have HT:Hid (Knuth.h<=q\/k<m):=.inl hA;have t1:decide ((q:Int)>=4294967296)=true:=xg Q4L;have t1':(4294967296:Int)<=(q:Int):=by omega
   clear hA;exact Q0Y
  .by_cases hB:k<m
   .have HT:Hid (Knuth.h<=q\/k<m):=.inr hB;have t1:¬ (4294967296:Int)<=(q:Int):=by omega
    have t2:(k:Int)<(m:Int):=by omega
    clear hA hB;exact Q0Y
   .have HF:=Lib.hid (HS.out Q5E Q4L);have t1:¬ (4294967296:Int)<=(q:Int):=by omega
    have t2:¬ (k:Int)<(m:Int):=by omega
    clear hA hB hq1;have hdq:(v*4294967296+d0) / Y=q:=by rw[HE.out.1];exact HF.out.symm
    have hq0:q<4294967296:=by rw[<-hdq,HE.out.1];exact Knuth.digit_lt (y1:=y1) (y0:=y0) d0h Q5z
    have bE:=xK (v*4294967296+d0) Y;have bQ:(v*4294967296+d0) / Y=q:=hdq;rw[bQ] at bE;have bL:=xA (v*4294967296+d0) (show 0<Y by omega);obtain⟨R,RE⟩:∃z,(v*4294967296+d0)%Y=z:=⟨_,rfl⟩;rw[RE] at bE bL;obtain⟨bC,bCE⟩:∃c,q*Y%18446744073709551616=c:=⟨_,rfl⟩;have b3:IntKind.u64.wrap ((q:Int)*(Y:Int))=(bC:Int):=by rw[<-x5,xm];omega
    rw[xn Y] at bE;obtain⟨bA,bAE⟩:∃c,v*4294967296%18446744073709551616=c:=⟨_,rfl⟩;have b1:IntKind.u64.wrap ((v:Int)*4294967296)=(bA:Int):=by rw[xm];omega
    obtain⟨bB,bBE⟩:∃c,(bA+d0)%18446744073709551616=c:=⟨_,rfl⟩;have b2:IntKind.u64.wrap ((bA:Int)+(d0:Int))=(bB:Int):=by rw[xm];omega
    have b4:IntKind.u64.wrap ((bB:Int)-(bC:Int))=(R:Int):=by
     rw[xm];generalize q*Y=P at *;omega
    have HR0':=Lib.hid RE;clear bE bCE bAE bBE RE;obtain⟨Q1,hQ1⟩:∃c:Nat,qa*4294967296=c:=⟨_,rfl⟩;have c1:IntKind.u64.wrap ((qa:Int)*4294967296)=(Q1:Int):=by rw[xm];omega
    obtain⟨Q,hQ⟩:∃c:Nat,Q1+q=c:=⟨_,rfl⟩;have c2:IntKind.u64.wrap ((Q1:Int)+(q:Int))=(Q:Int):=by rw[xm];omega
    have HR:Hid (Q=d64q hi lo y/\R / 2^s=d64r hi lo y):=by
     show Q=(hi*18446744073709551616+lo) / y/\R / 2^s=(hi*18446744073709551616+lo)%y;have e2:=Knuth.two u d1 d0 Y Q4L;have el:=HE.out.2;have eN:u*18446744073709551616+l=u*Knuth.h*Knuth.h+d1*Knuth.h+d0:=Knuth.join u l d1 d0 el;rw[<-eN] at e2;rw[<-hbk.1,<-hbk.2,e2.1,e2.2];have x1:(u*Knuth.h+d1) / Y=qa:=HD1.out;have x2:(u*Knuth.h+d1)%Y=v:=Hv.out;have x3:(v*Knuth.h+d0) / Y=q:=hdq;have x4:(v*Knuth.h+d0)%Y=R:=HR0'.out;rw[x1,x2,x3,x4];refine⟨?_,rfl⟩;show Q=qa*4294967296+q;rw[<-hQ,<-hQ1]
    exact Q1W):Z:=h
theorem Q06(k:Y)(h:Wr Y->Z:=by
 intro kQ;repeat' (refine Ba ?_;first|refine Q2W ?_|refine Q2U ?_|refine Q3g ?_|refine Q3a ?_|fail)
 refine Ba ?_;exact kQ.o):Z:=h ⟨k⟩
theorem Q0c(h:Z:=by ·exact Q1X):Z:=h
theorem Q0p(h:Z:=by
 go_wp2_with (first|(refine qcb (ty:=137) rfl ?_;refine wpList_load_row ?_ 137 _ rfl (w.heap.size+1) rfl _ (sz (v / 2^k)) _ _ (hrow') underlying137 rfl Q4V ?_;(focus rfl))|(refine qbc (ty:=137) rfl ?_;refine wpList_store_row ?_ 137 _ _ rfl (w.heap.size) (sz (v / 2^k)) rfl rfl _ (_) (hres) Q4V Q4X (qby _) ?_;(focus rfl))|fail)
 have hl:=run_loadVar_row (P:=prog) (wr.setRow w.heap.size (sz (v / 2^k))) w.heap.size _ 137 (sz (v / 2^k)) _ _ (hres.row _) underlying137 rfl Q4V;refine bodyPost_ret (v:=.tuple #[.agg (sz (v / 2^k)),.bool _]) (by simp[results,Tryz.results297,asAddr,hl];rfl) rfl ⟨⟨_,rfl⟩,below_setRow hbel (nlr _) _⟩):Z:=h
theorem Q0G(h:Z:=by
 rw[xm];generalize q'*Y=P at *;omega):Z:=h
theorem Q0S(h:Z:=by repeat (refine Ba ?_;first|exact Bd|refine Q2X ?_|refine Q3k ?_|refine Q3H ?_)):Z:=h
theorem Q0V(h:Z:=by
 rw[<-qdc];have:=IsRow.new (w.alloc (.cells (sz 0) 137)) (sz 0) 137;rw[show(w.alloc (.cells (sz 0) 137)).heap.size=w.heap.size+1 by simp] at this;exact this):Z:=h
theorem Q0W(h:Z:=by
 simp only[Sem.run_bind];rw[show(Op.equal 137 (.agg ⟨limL 16 (dg u)⟩) (.agg #[.int .u64 0,.int .u64 0,.int .u64 0,.int .u64 0,.int .u64 0,.int .u64 0,.int .u64 0,.int .u64 0,.int .u64 0,.int .u64 0,.int .u64 0,.int .u64 0,.int .u64 0,.int .u64 0,.int .u64 0,.int .u64 0])).run prog w=.ok (decide (u=0)) w from he w];rfl):Z:=h
theorem Q0Y(h:Z:=by
 obtain⟨h0q,hG2⟩:=HH.out (HT.out);obtain⟨q',hq'⟩:∃q',q-1=q':=⟨_,rfl⟩;rw[hq'] at hG2;have HG2:=Lib.hid hG2;have e4:IntKind.u64.wrap ((q:Int)-1)=(q':Int):=by rw[xm];omega
 have HQ:=Lib.hid (show q=q'+1 by omega);have hq2:q'<=4294967296:=by omega
 clear hG2 hq' h0q hq1;by_cases hbr:(4294967296:Int)<=(r':Int)
 .have HF:=Lib.hid (Knuth.stop' y0h d0h hu' HG2.out hq2 Q5E);clear hq2;have hdq:(v*4294967296+d0) / Y=q':=by rw[HE.out.1];exact HF.out.symm
  have hq0:q'<4294967296:=by rw[<-hdq,HE.out.1];exact Knuth.digit_lt (y1:=y1) (y0:=y0) d0h Q5z
  have bE:=xK (v*4294967296+d0) Y;have bQ:(v*4294967296+d0) / Y=q':=hdq;rw[bQ] at bE;have bL:=xA (v*4294967296+d0) (show 0<Y by omega);obtain⟨R,RE⟩:∃z,(v*4294967296+d0)%Y=z:=⟨_,rfl⟩;rw[RE] at bE bL;obtain⟨bC,bCE⟩:∃c,q'*Y%18446744073709551616=c:=⟨_,rfl⟩;have b3:IntKind.u64.wrap ((q':Int)*(Y:Int))=(bC:Int):=by rw[<-x5,xm];omega
  rw[xn Y] at bE;obtain⟨bA,bAE⟩:∃c,v*4294967296%18446744073709551616=c:=⟨_,rfl⟩;have b1:IntKind.u64.wrap ((v:Int)*4294967296)=(bA:Int):=by rw[xm];omega
  obtain⟨bB,bBE⟩:∃c,(bA+d0)%18446744073709551616=c:=⟨_,rfl⟩;have b2:IntKind.u64.wrap ((bA:Int)+(d0:Int))=(bB:Int):=by rw[xm];omega
  have b4:IntKind.u64.wrap ((bB:Int)-(bC:Int))=(R:Int):=by
   rw[xm];generalize q'*Y=P at *;omega
  have HR0':=Lib.hid RE;clear bE bCE bAE bBE RE;obtain⟨Q1,hQ1⟩:∃c:Nat,qa*4294967296=c:=⟨_,rfl⟩;have c1:IntKind.u64.wrap ((qa:Int)*4294967296)=(Q1:Int):=by rw[xm];omega
  obtain⟨Q,hQ⟩:∃c:Nat,Q1+q'=c:=⟨_,rfl⟩;have c2:IntKind.u64.wrap ((Q1:Int)+(q':Int))=(Q:Int):=by rw[xm];omega
  have HR:Hid (Q=d64q hi lo y/\R / 2^s=d64r hi lo y):=by
   show Q=(hi*18446744073709551616+lo) / y/\R / 2^s=(hi*18446744073709551616+lo)%y;have e2:=Knuth.two u d1 d0 Y Q4L;have el:=HE.out.2;have eN:u*18446744073709551616+l=u*Knuth.h*Knuth.h+d1*Knuth.h+d0:=Knuth.join u l d1 d0 el;rw[<-eN] at e2;rw[<-hbk.1,<-hbk.2,e2.1,e2.2];have x1:(u*Knuth.h+d1) / Y=qa:=HD1.out;have x2:(u*Knuth.h+d1)%Y=v:=Hv.out;have x3:(v*Knuth.h+d0) / Y=q':=hdq;have x4:(v*Knuth.h+d0)%Y=R:=HR0'.out;rw[x1,x2,x3,x4];refine⟨?_,rfl⟩;show Q=qa*4294967296+q';rw[<-hQ,<-hQ1]
  exact Q1W
 .exact Q1X):Z:=h
theorem Q0Z(h:Z:=by
 obtain⟨h0q,hG2⟩:=HH.out (HT.out);obtain⟨q',hq'⟩:∃q',q-1=q':=⟨_,rfl⟩;rw[hq'] at hG2;have HG2:=Lib.hid hG2;have e4:IntKind.u64.wrap ((q:Int)-1)=(q':Int):=by rw[xm];omega
 have HQ:=Lib.hid (show q=q'+1 by omega);have hq2:q'<=4294967296:=by omega
 clear hG2 hq' h0q hq1;by_cases hbr:(4294967296:Int)<=(r':Int)
 .have HF:=Lib.hid (Knuth.stop' y0h d1h hu' HG2.out hq2 Q5E);clear hq2;have hdq1:(u*4294967296+d1) / Y=q':=by rw[HE.out.1];exact HF.out.symm
  have hq1h:q'<4294967296:=by rw[<-hdq1,HE.out.1];exact Knuth.digit_lt (y1:=y1) (y0:=y0) d1h hu'
  have HD1:=Lib.hid hdq1;have aE:=xK (u*4294967296+d1) Y;have aQ:(u*4294967296+d1) / Y=q':=hdq1;rw[aQ] at aE;have aL:=xA (u*4294967296+d1) (show 0<Y by omega);obtain⟨v,vE⟩:∃z,(u*4294967296+d1)%Y=z:=⟨_,rfl⟩;rw[vE] at aE aL;obtain⟨aC,aCE⟩:∃c,q'*Y%18446744073709551616=c:=⟨_,rfl⟩;have a3:IntKind.u64.wrap ((q':Int)*(Y:Int))=(aC:Int):=by rw[<-x5,xm];omega
  rw[xn Y] at aE;obtain⟨aA,aAE⟩:∃c,u*4294967296%18446744073709551616=c:=⟨_,rfl⟩;have a1:IntKind.u64.wrap ((u:Int)*4294967296)=(aA:Int):=by rw[xm];omega
  obtain⟨aB,aBE⟩:∃c,(aA+d1)%18446744073709551616=c:=⟨_,rfl⟩;have a2:IntKind.u64.wrap ((aA:Int)+(d1:Int))=(aB:Int):=by rw[xm];omega
  have a4:IntKind.u64.wrap ((aB:Int)-(aC:Int))=(v:Int):=by
   exact Q0G
  have Hv:=Lib.hid vE;clear aE aCE aAE aBE vE;have hvY:v<Y:=aL;clear aQ hdq1 aL HF;obtain⟨qa,rfl⟩:∃c,c=q':=⟨_,rfl⟩;exact Q00
 exact Q0c):Z:=h
theorem Q1L(h:Z:=by
 go_wp2_with fail
 go_roundw
 case rel=>exact⟨n+1,by omega,by go_num,hrow1,hres1,hbel1⟩
 case measure=>simp[intOf];omega):Z:=h
theorem Q1R(h:Z:=by
 go_wp2_with fail
 go_roundw
 case rel=>exact⟨n,by omega,by go_num,hrow1,hres1,hbel1⟩
 case measure=>simp[intOf]):Z:=h
theorem Q1T(h:Z:=by
 match k,h with
 | 0,_=>rfl
 | 1,_=>rfl
 | 2,_=>rfl
 | 3,_=>rfl
 | 4,_=>rfl
 | 5,_=>rfl
 | 6,_=>rfl
 | 7,_=>rfl
 | 8,_=>rfl
 | 9,_=>rfl):Z:=h
theorem Q1W(h:Z:=by
 clear hQ hQ1 hdq hq0 bQ
 go_wp2_with fail
 exact bodyPost_ret (v:=.tuple #[.int .u64 (Q:Nat),.int .u64 ((R:Int) / 2^s)]) (by simp[results,Tryz.results293]) rfl ⟨by rw[qcc,HR.out.1,HR.out.2],hB⟩):Z:=h
theorem Q1X(h:Z:=by
 clear hq2
 go_wp2_with fail
 go_roundw
 case rel=>exact⟨by first|trivial|rfl,q',r',rfl,rfl,by omega,HG2⟩
 case measure=>have:=HQ.out;simp[intOf];omega):Z:=h
theorem Q23(h:Z:=by repeat (first|with_reducible exact hB|with_reducible refine Below.alloc ?_ Q4S _)):Z:=h
theorem Q25(h:Z:=by
 have e:q*(y1*h+y0)=q*y1*h+q*y0:=by rw[Nat.mul_add,xV]
 rw[e,<-hs,xB,xn r h];omega):Z:=h
theorem Q2u(k:Y)(h:Wr Y->Z:=by
 intro kQ;refine Ba ?_;refine Bi (i+j) 1 (by rw[IntWalk.i64_in _ Q4L];omega) Q4L ?_;refine Ba ?_;exact kQ.o):Z:=h ⟨k⟩
theorem Q2v(h:Z:=by
 refine Ba ?_;refine N.next (i+1) ⟨by omega,by omega⟩ ?_;exact Q0S):Z:=h
theorem Q2B(k:Y)(h:Wr Y->Z:=by
 intro kQ;refine Ba ?_;refine Bc (qw5 _ _ _ _ Q4L Q4L Q4L Q4L Q4L Q4L) ?_;exact kQ.o):Z:=h ⟨k⟩
theorem Q2D(h:Z:=by
 rw[<-qdc];exact(IsRow.new _ _ _).alloc _):Z:=h
theorem Q2P(h:Z:=by
 have:=qjq a b i;have h:=q21 (a+b) i;simp only[Bs] at this;omega):Z:=h
theorem Q2S(k:Y)(h:Wr Y->Z:=by intro kQ;(first|with_reducible (first|refine Bb (qab _ _ _) ?_|refine Bb (qaa _ _) ?_|refine N.eq ?_|refine Bb rfl ?_|refine Bb ⟨by kernel_rfl,by kernel_rfl⟩ ?_|refine N.alt ?_|refine N.forkT ?_|refine N.forkF ?_)|fail);exact kQ.o):Z:=h ⟨k⟩
theorem Q2X(k:Y)(h:Wr Y->Z:=by intro kQ;(first|with_reducible refine Bb rfl ?_|fail);exact kQ.o):Z:=h ⟨k⟩
theorem Q39(k:Y)(h:Wr Y->Z:=by intro kQ;(first|refine Bb (.plain Q4N) ?_|refine Bb (.one (.ptr rfl)) ?_|fail);exact kQ.o):Z:=h ⟨k⟩
theorem Q3a(k:Y)(h:Wr Y->Z:=by intro kQ;(first|refine Bf (by rw[xG];omega) ?_|fail);exact kQ.o):Z:=h ⟨k⟩
theorem Q3g(k:Y)(h:Wr Y->Z:=by intro kQ;(first|refine Be (by rw[xC];omega) ?_|fail);exact kQ.o):Z:=h ⟨k⟩
theorem Q3k(k:Y)(h:Wr Y->Z:=by intro kQ;(first|with_reducible refine Bb (ChunkLe.refl _) ?_|fail);exact kQ.o):Z:=h ⟨k⟩
theorem Q3s(k:Y)(h:Wr Y->Z:=by intro kQ;(first|refine Bb (qfl Q4N) ?_|refine Bb (qjm Q4N Q4N) ?_|refine Bb qjn ?_|refine Bb (qjo Q4N) ?_|refine Bb qgt ?_|fail);exact kQ.o):Z:=h ⟨k⟩
theorem Q3D(k:Y)(h:Wr Y->Z:=by intro kQ;(first|refine Bb (.one (.map rfl)) ?_|refine Bb (.one (.slice rfl)) ?_|fail);exact kQ.o):Z:=h ⟨k⟩
theorem Q3H(k:Y)(h:Wr Y->Z:=by intro kQ;(first|refine Bb (qe2 (by rw[IntWalk.i64_in _ Q4L];rfl)) ?_|fail);exact kQ.o):Z:=h ⟨k⟩
theorem Q3O(k:Y)(h:Wr Y->Z:=by intro kQ;(first|refine qwt q3l E rfl underlying143 underlying3 type131 rfl (q3l e1) (by rw[hg];rfl) rfl ?_|fail);exact kQ.o):Z:=h ⟨k⟩
theorem Q48(h:Z:=by first|exact results_cell_row Tryz.results189 _ _ (w.heap.size+1) _ _ _ _ rfl (hr2.drew.row _) underlying139 rfl Q58|fail):Z:=h
theorem Q4l(h:Z:=by first|exact qcu Tryz.results269 _ _ _ _ _ _ rfl rfl h2 h3|fail):Z:=h
theorem Q4m(h:Z:=by first|exact ⟨by rw[hcm];rfl,by repeat (first|with_reducible exact hbel|with_reducible apply Below.drew|with_reducible apply qbv),hsz⟩|fail):Z:=h
theorem Q4o(h:Z:=by first|exact results_cell_row Tryz.results111 _ _ w.heap.size _ _ _ _ rfl (hr.row _) underlying139 rfl Q58|fail):Z:=h
theorem Q4q(h:Z:=by first|exact ⟨.inl rfl,.inr ⟨_,rfl,rfl⟩,xb⟩|fail):Z:=h
theorem Q4u(h:Z:=by first|exact ⟨⟨λh=>Q5d,by show 2<=3;decide,qog Q4N⟩,⟨λh=>⟨rfl,nlr _⟩,nlr _,qwy⟩,xb⟩|fail):Z:=h
theorem Q4V(h:Z:=by rw[sz_size];kernel_rfl):Z:=h
theorem Q58(h:Z:=by rw[wi_size];kernel_rfl):Z:=h
theorem Q5n(h:Z:=by rintro e w' ⟨he,rfl⟩;exact⟨he,Below.refl _ _⟩):Z:=h
theorem Q5s(h:Z:=by show w.heap.size+1+1+1+1≠_;omega):Z:=h
theorem Q5z(h:Z:=by have:=HE.out.1;show v<y1*4294967296+y0;omega):Z:=h
theorem Q5E(h:Z:=by simp only[Knuth.h];omega):Z:=h
theorem Q5F(h:Z:=by simp[qac]):Z:=h
theorem Q5Z(h:Z:=by rw[yY];simp;omega):Z:=h
end
end Go.Proofs

namespace Go.Proofs.YtggfpcfkbilkmaaGreatDoor
open Go Go.RowKit Sx
def q28(x:Ent):Nat->Value
 | 0=>.int .i64 x.node
 | 1=>.int .i64 x.boot
 | 2=>.int .i64 x.heard
 | 3=>.bool x.has
 | 4=>.int .i64 x.x
 | 5=>.int .i64 x.y
 | 6=>.int .i64 x.a
 | 7=>.int .i64 x.b
 | 8=>.int .i64 x.d
 | _=>.int .i64 x.when_
theorem qgk(x:Ent)(k:Nat):qa4 (q28 x k)=true:=by unfold q28;split<;>rfl
theorem qls(x:Ent){k:Nat}(h:k<10):cellIn (q3l x) k=q28 x k:=Q1T
theorem qm2(j:Nat):repZ 10 (q3l Ent.zero) j=q28 (Ent.zero) (j%10):=by
 unfold repZ;have h:j%10<10:=xA _ Q4P;generalize j%10=k at h;exact Q1T
abbrev enC(o:Bool)(c:Nat)(T:Nat->Ent):Chunk:=⟨o,c*10,[(0,c*10,.agg ⟨segL (c*10) λj=>q28 (T (j / 10)) (j%10)⟩)]⟩
variable{c:Nat}{T:Nat->Ent}
theorem q9d{o:Bool}{j:Nat}(h:j<c*10):(enC o c T).f j=q28 (T (j / 10)) (j%10):=qay h
variable{ix:Lz}
theorem qwx{o o':Bool}{T':Nat->Ent}(h:∀i,i<c->T i=T' i):qb6 ix (enC o c T) (enC o' c T'):=λj hj=>by
 have hj:j<c*10:=hj;rw[qay hj,qay hj,h (j / 10) Q4L];exact .plain (qgk _ _)
theorem qur{T':Nat->Ent}{hp:Hp}{n:Nat}(h:∀i,i<c->T i=T' i)(hh:hp[n]?=some (some (enC true c T'))):PostC ix hp n (enC true c T):=⟨_,hh,id,nlr _,qwx h⟩
theorem qyh{T':Nat->Ent}(h:∀i,i<c->T i=T' i):ChunkReLe ix (enC true c T) (enC true c T'):=⟨id,nlr _,qwx h⟩
def seten(T:Nat->Ent)(l:Nat)(x:Ent)(i:Nat):Ent:=if i=l then x else T i
variable{x:Ent}
theorem q9e{l p:Nat}(h:l<c)(e:p=l*10):Writes (enC true c T) p (1*10) (q3l x) (enC true c (seten T l x)):=by
 subst e;refine⟨rfl,by show l*10+1*10<=c*10;omega,rfl,λj hj=>?_⟩
 grind[qay,seten,qls]
def q3j(T:Nat->Ent)(l:Nat)(x:Ent)(i:Nat):Ent:=if i<l then T i else if i=l then x else Ent.zero
variable{ci:Chunk}
theorem qus{l cap:Nat}(h:l<cap)(hc:∀j,j<l*10->ci.f j=q28 (T (j / 10)) (j%10)){j:Nat}(hj:j<cap*10):(grown ci l 1 10 (q3l x) (q3l Ent.zero) cap).f j=q28 (q3j T l x (j / 10)) (j%10):=by
 unfold q3j;by_cases h1:j<l*10
 .grind[qdq]
 .rw[if_neg Q4L];by_cases h2:j<(l+1)*10
  .have:=qdr (ci:=ci) (l:=l) (m:=1) (size:=10) (cap:=cap) (v:=q3l x) (z:=q3l Ent.zero) (j:=j-l*10) Q4L
   grind[qls]
  grind[qcx,qm2]
theorem qhk{l cap:Nat}{T':Nat->Ent}(h:l<cap)(hc:∀j,j<l*10->ci.f j=q28 (T (j / 10)) (j%10))(he:∀i,i<cap->T' i=q3j T l x i):ChunkReLe ix (enC true cap T') (grown ci l 1 10 (q3l x) (q3l Ent.zero) cap):=
 ⟨λ_=>rfl,by show cap*10<=cap*10;omega,λj hj=>by
  have hj:j<cap*10:=hj;rw[qay hj,qus h hc hj,he _ Q4L];exact .plain (qgk _ _)⟩
def q6o(E:Ez)(i:Nat):Ent:=match (sortK E)[i]? with
 | some k=>(dGet E k).getD Ent.zero
 | none=>Ent.zero
variable{E:Ez}{k:Int}
theorem qro{i:Nat}{e:Ent}(h:(sortK E)[i]?=some k)(he:dGet E k=some e):q6o E i=e:=by
 grind[q6o]
theorem qlt{i:Nat}(h:i<E.length):∃k,(sortK E)[i]?=some k/\∃e,(k,e)∈E:=by
 have hl:i<(sortK E).length:=by rw[qlq];exact h
 refine⟨(sortK E)[i],by simp[hl],?_⟩
 grind[qpl,List.getElem_mem]
theorem qof{α:Type}{E:List (Int×α)}{e:α}(h:(k,e)∈E):∃e',dGet E k=some e':=by
 cases hg:dGet E k with
 | some e'=>exact⟨e',rfl⟩
 | none=>exact absurd rfl (dGet_none.1 hg _ h)
abbrev q7o(x:Ext)(o:Bool)(most:Int)(i j:Nat):Chunk:=@Chunk.mk x o 3 [(0,3,.agg ⟨[xc most,.map (some i),.map (some j)]⟩)]
abbrev q5x(most:Int):Chunk:=⟨false,2,[(0,2,.agg ⟨[xc most,.map (some 1)]⟩)]⟩
variable{most:Int}
theorem qog{x:Ext}{o:Bool}{i j:Nat}(hi:ixK ix 1=some i):qb6 ix (q7o x o most i j) (q5x most):=λl hl=>by
 match l,hl with
 | 0,_=>exact .plain rfl
 | 1,_=>exact .map hi
theorem qwy{α:Type}{enc:α->Value}{D D':List (Int×α)}:qb6 ix (q31 enc D) (q31 enc D'):=nzj
theorem qoh{α:Type}{enc:α->Value}{D:List (Int×α)}{h:Hp}{k:Nat}(hh:h[k]?=some (some (q31 enc D))):PostC ix h k (q31 enc D):=⟨_,hh,id,nlr _,nzj⟩
def jbd(E:Ez)(k:Nat)(pre:Mz)(v:Value)(ms:Mz):Prop:=
 (E=[]/\v=.slice none 0 0/\ms=pre)\/∃cap,0<E.length/\E.length<=cap/\v=.slice (some ⟨k,0,some 0⟩) E.length cap/\ms=pre++[(k,enC true cap λi=>if i<E.length then q6o E i else Ent.zero)]
theorem q7p{v u:Value}(h:v=u)(hp:qaq v=true):Re ix v u:=by subst h;exact .plain hp
theorem qwz{k:IntKind}{a b:Int}(h:a=b):Value.int k a=.int k b:=by rw[h]
def allF(E:Ez)(r i:Nat):Ent:=if i<r then q6o E i else Ent.zero
variable{P:Program}
theorem qyi{G:Tys}{n0:Nat}{c:Code}{A:(Exit->St->Prop)->St->Prop}{Q:Exit->St->Prop}{t:List (Option Value)}{h:Hp}(mk:Nat)(hw:updK mk [] t 0 λt'=>wkK n0 ⟨t,h⟩ ⟨t',h⟩ (N True))(k:updK mk [] t 0 λt'=>N (q4t P G n0 c A Q ⟨t',h⟩)):N (q4t P G n0 c A Q ⟨t,h⟩):=by
 have h1:=(qq8 (updK_iff.1 hw)).1;obtain⟨α,mk',inv,μ,nx,p1,⟨x,p2,p3⟩,p4⟩:=(updK_iff.1 k).out;exact N.mk ⟨α,mk',inv,μ,nx,p1,⟨x,p2,λX ρ a w hn R=>p3 X ρ a w hn (by subst hn;exact h1.rel R)⟩,p4⟩
variable{l:List Int}
theorem qrp{p n:Nat}{x:Int}(i:Nat)(hn:n=1)(h:l[i]?=some x)(e:p=i*1):Reads (q38 l) p false n (xc x):=by
 subst e hn;have hl:=(xe.1 h).1;exact⟨by show i*1<l.length;omega,rfl,by rw[x6];exact qm0 h⟩
theorem qw0{o:Bool}{n m:Nat}{l:List Value}(hl:l.length=n)(hm:m=n):Reads ⟨o,n,[(0,n,.agg ⟨l⟩)]⟩ 0 true m (.agg ⟨l⟩):=by
 subst hm;refine⟨by show 0+m<=m;omega,_,rfl,hl,λj hj=>?_⟩;show qa0 [(0,m,.agg ⟨l⟩)] (0+j)=_
 grind[qai,cellIn]
variable{K:Value->Mz->Prop}
theorem qyj{cj:Chunk}{g m size bytes:Nat}{z:Value}{slot:Nat}(v:Value)(hr:Reads cj g true (m*size) v)(h0:0<m)(h1:m<=9223372036854775807)(h2:m*bytes<=140737488355328)
  (k:∀cap,m<=cap->K (.slice (some ⟨slot,0,some 0⟩) m cap) [(slot,grown ⟨true,0,[]⟩ 0 m size v z cap)]):N (App0N cj g m size bytes z slot K):=N.mk (.inl ⟨v,hr,h0,h1,h2,k⟩)
theorem q0u{k s l:Nat}{cj:Chunk}{g m size bytes:Nat}{z:Value}{slot:Nat}(v:Value)(hr:Reads cj g true (m*size) v)(hf:flatB v (m*size)=true)(hl:l*size<=ci.n)(h1:l+m<=9223372036854775807)(h2:(l+m)*bytes<=140737488355328)
  (d:Chunk) (hw:l+m<=c->Writes ci (l*size) (m*size) v d) (k1:l+m<=c->K (.slice (some ⟨k,0,some s⟩) (l+m) c) [(k,d)]) (k2:c<l+m->∀cap,l+m<=cap->K (.slice (some ⟨slot,0,some 0⟩) (l+m) cap) [(slot,grown ci l m size v z cap)]):N (AppN ci k s l c cj g m size bytes z slot K):=
 N.mk ⟨v,hr,hf,hl,h1,h2,λh=>⟨d,hw h,k1 h⟩,k2⟩
theorem qjm{F:List ((Nat×Nat)×Win)}(h1:ixK ix 1=some 1)(h2:ixK ix 2=some 2):ChunkReLe ix (mainC F most) (mainC F most):=⟨id,nlr _,λj hj=>by
 match j,hj with
 | 0,_=>exact .plain rfl
 | 1,_=>exact .map h1
 | 2,_=>exact .map h2⟩
theorem qfl(h1:ixK ix 1=some 1):ChunkReLe ix (q5x most) (q5x most):=⟨id,nlr _,λj hj=>by
 match j,hj with
 | 0,_=>exact .plain rfl
 | 1,_=>exact .map h1⟩
theorem qjn{α:Type}{enc:α->Value}{D:List (Int×α)}:ChunkReLe ix (q31 enc D) (q31 enc D):=⟨id,nlr _,nzj⟩
theorem qjo(h1:ixK ix 1=some 1):ChunkReLe ix (q7k 1) (q7k 1):=⟨id,nlr _,λj hj=>by
 match j,hj with
 | 0,_=>exact .map h1⟩
theorem qgt:ChunkReLe ix (q38 l) (q38 l):=⟨id,nlr _,λj hj=>by
 have hj:j<l.length:=hj;have e:l[j]?=some l[j]:=by simp[hj]
 rw[qm0 e];exact .plain rfl⟩
theorem qam{g:FuncId}{vs:List Value}{h:Hp}{R R':Value->Mz->Prop}(hc:CallAll P g vs h R)(hr:∀v ms,R v ms->R' v ms):CallAll P g vs h R':=λX ρ w xs H hx=>by
 rcases hc X ρ w xs H hx with ⟨x,w',h1,v,ms,ρ',h2,h3⟩|⟨h1,h2⟩
 .exact .inl ⟨x,w',h1,v,ms,ρ',hr _ _ h2,h3⟩
 .refine .inr ⟨h1,h2.mono ?_⟩;rintro e w' ⟨x,he,v,ms,ρ',h3,h4⟩;exact⟨x,he,v,ms,ρ',hr _ _ h3,h4⟩
theorem q9f(x:Ext)(o:Bool)(most:Int)(E:Ez)(hE:E.length<=64)(i i1 i2 K:Nat)(h:Hp)(hi:h[i]?=some (some (q7o x o most i1 i2)))(h1:h[i1]?=some (some (q31 q3l E)))(hii:i≠i1)(hK:h[K]?=some none):
  CallAll prog 95 [xd i] h (jbd E K [(i1,q31 q3l E)]):=by
 have key:=qar (G:=tys) (h:=h) (vs:=[xd i]) (λ_:Unit=>True) (λ_=>_) (α:=Option Nat) (λκ=>match κ with|none=>E=[]|some cap=>0<E.length/\E.length<=cap) (λκ=>match κ with|none=>.slice none 0 0|some cap=>.slice (some ⟨K,0,some 0⟩) E.length cap) [⟨i,_,q5x most,noC⟩,⟨i1,q31 q3l E,q31 q3l E,q31 q3l E⟩] (λ_=>[noC,q31 q3l E])
  (λκ=>match κ with|none=>[]|some cap=>[⟨K,7,enC true cap λi=>if i<E.length then q6o E i else Ent.zero⟩]) [xd 0] tysOK q2p func95 Q4N (call95) ⟨hi,h1,xb⟩ Q4u (λκ _=>Q4u) (by simp[Apart,hii]) ⟨.inl rfl,.inr ⟨rfl,rfl⟩,xb⟩ (λκ hκ=>by
   cases κ with
   | none=>exact trivial
   | some cap=>exact⟨⟨hK,rfl,.inl (by show 0<cap*10;have:=hκ.1;have:=hκ.2;omega),by simp⟩,xb⟩) ⟨.ptr rfl,xb⟩ Opens.same ?_
 .refine qam key λv ms hR=>?_
  obtain⟨κ,hκ,rfl,rfl⟩:=hR;cases κ with
  | none=>exact .inl ⟨hκ,rfl,rfl⟩
  | some cap=>exact .inr ⟨cap,hκ.1,hκ.2,rfl,rfl⟩
 rintro⟨⟩ -
 repeat' (refine Ba ?_;first|refine Q2W ?_|refine Q2U ?_|refine Bc (qwv 1 2 _ _ Q4N Q4N) ?_|fail)
 refine Ba ?_
 refine Bg (qod E 1 2 6 _ _ Q4N rfl Q4N Q4N Q4L) λv ms hR=>?_
 rcases hR with ⟨hE0,rfl,rfl⟩|⟨kc,hpos,hkc,rfl,rfl⟩
 .refine Q06 ?_;refine Bq 1 ?_;refine Q06 ?_;refine Bh ?_;refine Bj none ⟨hE0,?_⟩;refine Bb (.plain rfl) ?_;refine Bb ⟨qoh Q4N,xb⟩ ?_;refine Bb xb ?_;refine Bb ⟨Q4q,xb⟩ ?_;exact Bd
 .refine Q06 ?_;refine qyi 4096 ?_ ?_
  .repeat' (refine Ba ?_;first|refine Q2W ?_|refine Q2U ?_|exact Bd|refine Q3k ?_|fail)
  refine Ba ?_;refine Bo (α:=Option (Nat×Nat)) (λx=>match x with|none=>True|some q=>1<=q.1/\q.1<=E.length/\q.1<=q.2) (λx=>match x with|none=>E.length|some q=>E.length-q.1) (λx=>match x with|none=>[(15,xc 0),(3,.slice none 0 0)]|some q=>[(15,xc (q.1:Int)),(3,.slice (some ⟨7,0,some 0⟩) q.1 q.2)]) (λx=>match x with|none=>[]|some q=>[(7,enC true q.2 (allF E q.1))]) none [(0,0),(1,1),(2,2),(6,6)] trivial ?_ ?_
  .repeat' (refine Ba ?_;first|refine Q2W ?_|refine Q2U ?_|exact Bd|refine Q3s ?_|refine Q39 ?_|refine Q3D ?_|fail)
  .intro x hx;cases x with
   | none=>
    obtain⟨k0,hk0,e0,he0⟩:=qlt (E:=E) (i:=0) hpos;obtain⟨e1,hg⟩:=qof he0;refine Q06 ?_;refine Bi 0 1 rfl hpos ?_;repeat' (refine Ba ?_;first|refine Q2W ?_|refine Q2U ?_|refine Bl _ (qrp 0 rfl hk0 rfl) ?_|refine Q3O ?_|fail)
    refine Ba ?_;refine qyj (q3l e1) (qw0 Q4N Q4N) Q4P Q4P Q4P λcap hcap=>?_
    refine Q06 ?_;refine Bk (some (1,cap)) [(0,0),(1,1),(2,2),(6,6),(8,7)] ⟨⟨nlr _,hpos,hcap⟩,by show E.length-1<E.length;omega⟩ ?_;have hgr:∀i,i<cap->allF E 1 i=q3j (λ_=>Ent.zero) 0 e1 i:=λi _=>by
     unfold allF q3j;by_cases h0:i=0
     .subst h0;rw[if_pos Q4L,if_neg Q4L,if_pos rfl];exact qro hk0 hg
     .rw[if_neg Q4L,if_neg Q4L,if_neg h0]
    repeat' (refine Ba ?_;first|refine Q2W ?_|refine Q2U ?_|exact Bd|refine Q3s ?_|refine Q39 ?_|refine Q3D ?_|refine Bb (qhk (l:=0) hcap (λj hj=>absurd hj Q4L) hgr) ?_|fail)
   | some q=>
    obtain⟨r,c⟩:=q;obtain⟨q1,q2,q3⟩:=hx;have q1:1<=r:=q1;have q2:r<=E.length:=q2;have q3:r<=c:=q3;by_cases hlt:r<E.length
    .obtain⟨k0,hk0,e0,he0⟩:=qlt (E:=E) (i:=r) hlt;obtain⟨e1,hg⟩:=qof he0;have hset:allF E (r+1)=seten (allF E r) r e1:=by
      funext i;unfold allF seten;by_cases h0:i=r
      .subst h0;rw[if_pos Q4L,if_pos rfl];exact qro hk0 hg
      .rw[if_neg h0];by_cases h1:i<r
       .rw[if_pos Q4L];exact(if_pos h1).symm
       .rw[if_neg Q4L];exact(if_neg h1).symm
     have hgr:∀cap i,i<cap->allF E (r+1) i=q3j (allF E r) r e1 i:=λcap i _=>by
      rw[hset];unfold seten q3j;by_cases h0:i<r
      .rw[if_neg Q4L,if_pos h0]
      .rw[if_neg h0];by_cases h1:i=r
       .rw[if_pos h1,if_pos h1]
       .rw[if_neg h1,if_neg h1];unfold allF;rw[if_neg h0]
     refine Q06 ?_;refine Bi r 1 rfl hlt ?_;repeat' (refine Ba ?_;first|refine Q2W ?_|refine Q2U ?_|refine Bl _ (qrp r rfl hk0 (by first|rfl|omega)) ?_|refine Q3O ?_|fail)
     refine Ba ?_;refine q0u (q3l e1) (qw0 Q4N Q4N) Q4N (by show r*10<=c*10;omega) Q4L (by show(r+1)*80<=_;omega) (enC true c (seten (allF E r) r e1)) (λh=>q9e Q4L rfl) (λhr=>?_) (λhg2 cap hcap=>?_)
     .refine Q06 ?_;refine Bk (some (r+1,c)) [(0,0),(1,1),(2,2),(6,6),(7,7)] ⟨⟨by show 1<=r+1;omega,hlt,hr⟩,by show E.length-(r+1)<E.length-r;omega⟩ ?_;repeat' (refine Ba ?_;first|refine Q2W ?_|refine Q2U ?_|exact Bd|refine Q3s ?_|refine Q39 ?_|refine Q3D ?_|refine Bb (q7p (qwz (by rw[q23 _ Q4L Q4L];omega)) rfl) ?_|refine Bb (qyh λi _=>by rw[hset]) ?_|fail)
     .refine Q06 ?_;refine Bk (some (r+1,cap)) [(0,0),(1,1),(2,2),(6,6),(9,7)] ⟨⟨by show 1<=r+1;omega,hlt,hcap⟩,by show E.length-(r+1)<E.length-r;omega⟩ ?_;repeat' (refine Ba ?_;first|refine Q2W ?_|refine Q2U ?_|exact Bd|refine Bb (qfl Q4N) ?_|refine Bb qjn ?_|refine Bb (qjo Q4N) ?_|refine Bb qgt ?_|refine Q39 ?_|refine Q3D ?_|refine Bb (q7p (qwz (by rw[q23 _ Q4L Q4L];omega)) rfl) ?_|refine Bb (qhk (ci:=enC true c (allF E r)) hcap (λj hj=>q9d Q4L) (hgr cap)) ?_|fail)
    .obtain rfl:r=E.length:=by omega
     refine Q06 ?_;refine Bh ?_;refine Bj (some c) ⟨⟨q1,q3⟩,?_⟩;refine Bb (.one (.slice rfl)) ?_;refine Bb ⟨qoh Q4N,xb⟩ ?_;refine Bb ⟨⟨yC rfl,qur (T':=allF E E.length) (λ_ _=>rfl) Q4N⟩,xb⟩ ?_;refine Bb ⟨Q4q,.inl rfl,xb⟩ ?_;exact Bd
open Go Go.RowKit Sx
theorem qjp{α:Type}(D:List (Int×α))(k:Int)(a:α):dGet (q4w D k a) k=some a:=by
 unfold q4w;cases hg:dGet D k with
 | none=>
  simp only;have:(D++[(k,a)]).find? (λq=>decide (q.1=k))=some (k,a):=by
   rw[List.find?_append,List.find?_eq_none.2 (by simpa using dGet_none.1 hg)];simp
  simp[dGet,this]
 | some b=>
  simp only;have hm:=qlh hg
  induction D with
  | nil=>cases hm
  | cons q D ih=>
   unfold dGet;rw[xi,List.find?_cons];by_cases e:q.1=k
   .simp[e]
   .have h1:decide ((if q.1=k then (k,a) else q).1=k)=false:=by rw[if_neg e];simp[e]
    rw[h1];have hg':dGet D k=some b:=by
     unfold dGet at hg;rw[List.find?_cons] at hg;simpa[e,dGet] using hg
    exact ih hg' (qlh hg')
theorem qm3{α:Type}(D:List (Int×α)){n:Int}(a:α)(h:n≠k):dGet (q4w D k a) n=dGet D n:=by
 unfold q4w;cases hg:dGet D k with
 | none=>
  simp only;unfold dGet;rw[List.find?_append];cases D.find? (λq=>decide (q.1=n)) with
  | none=>simp[Ne.symm h]
  | some x=>simp
 | some b=>
  simp only;clear hg;unfold dGet
  induction D with
  | nil=>rfl
  | cons q D ih=>
   rw[xi,List.find?_cons,List.find?_cons];by_cases e:q.1=k
   .have h1:decide (q.1=n)=false:=by simp[e,Ne.symm h]
    have h2:decide ((if q.1=k then (k,a) else q).1=n)=false:=by rw[if_pos e];simp[Ne.symm h]
    rw[h1,h2];exact ih
   .rw[if_neg e];cases decide (q.1=n) with
    | true=>rfl
    | false=>exact ih
open Go Go.RowKit Sx
def qw1(n boot seq now:Int):Prop:=(0<=n/\n<64)/\q4e boot/\q4e seq/\(0<=now/\now<=1000000)
variable{w:World}
theorem HOK.sub{X:Ctx}{ρ:Rz}{h h':Hp}(H:HOK X ρ h w)(hb:∀i,i<X.n0->Fil h' i)(hs:∀(i:Nat)(c:Chunk),h'[i]?=some (some c)->h[i]?=some (some c)/\∀j,j<c.n->Safe1 h' (c.f j)):HOK X ρ h' w:=by
 refine⟨H.evo,λi hi=>⟨hb i hi,(H.base i hi).2⟩,λi c hi=>H.lt i c (hs i c hi).1,λi c hi j hj=>?_,λi c hi=>H.own i c (hs i c hi).1,λi c j d hi ho hj=>H.sep i c j d (hs i c hi).1 ho (hs j d hj).1,?_⟩
 .obtain⟨x,hx,hd⟩:=H.cell i c (hs i c hi).1 j hj;exact⟨x,hx,λr hr=>((hs i c hi).2 j hj).inScope ρ r hr |>.trans hd.self⟩
 .obtain⟨S,E⟩:=H.ext;exact E.less λi c hi=>⟨rfl,c,(hs i c hi).1,nlr _,.inr rfl⟩
open Go Go.RowKit Sx
instance(n boot seq now:Int):Decidable (qw1 n boot seq now):=by unfold qw1;infer_instance
structure TOK(T:Tbl):Prop where
 most:1<=T.most/\T.most<=64
 len:T.E.length<=T.most
 seen:∀n l,T.lives n=some l->l.W.seen<18446744073709551616
structure EOK(E:Ez):Prop where
 nodup:(E.map (·.1)).Nodup
 key:∀k e,dGet E k=some e->e.node=k
theorem qrq{α:Type}{D:List (Int×α)}{a:α}(h:(D.map (·.1)).Nodup):((q4w D k a).map (·.1)).Nodup:=by
 unfold q4w;cases hg:dGet D k with
 | none=>
  simp only[yG,xi,xZ];refine List.nodup_append.2 ⟨h,by simp,λx hx y hy e=>?_⟩;simp only[xP] at hy;obtain⟨q,hq,rfl⟩:=xv.1 hx;exact dGet_none.1 hg q hq (e.trans hy)
 | some b=>
  simp only[yQ];have:(λq:Int×α=>(if q.1=k then (k,a) else q).1)=λq=>q.1:=by
   funext q;by_cases e:q.1=k
   .rw[if_pos e,e]
   .rw[if_neg e]
  simpa[Function.comp_def,this] using h
theorem EOK.put(h:EOK E)(e:Ent):EOK (q4w E e.node e):=⟨qrq h.nodup,λk x hx=>by
 by_cases hk:k=e.node
 .subst hk;rw[qjp] at hx;obtain rfl:e=x:=by simpa using hx
  rfl
 .rw[qm3 _ _ hk] at hx;exact h.key k x hx⟩
theorem EOK.nil:EOK []:=⟨xD,λk e h=>by simp[dGet] at h⟩
abbrev Bs:Nat:=18446744073709551616
theorem qeg:0<Bs:=by decide
theorem qbr(n:Nat):0<Bs^n:=yd qeg
def dg(v j:Nat):Nat:=v / Bs^j%Bs
theorem q21(v j:Nat):dg v j<18446744073709551616:=xA _ qeg
theorem qe0(j:Nat):dg 0 j=0:=by simp[dg]
theorem qcj(v j:Nat):v / Bs^j=v / Bs^(j+1)*Bs+dg v j:=by
 unfold dg;rw[yw,<-yx];have:=xK (v / Bs^j) Bs;rw[xn];exact this.symm
theorem qgu(v j:Nat):v%Bs^(j+1)=v%Bs^j+Bs^j*dg v j:=by
 unfold dg;rw[yw,Nat.mod_mul]
theorem qip(v j:Nat)(h:v<Bs^j):dg v j=0:=by
 unfold dg;rw[xW h];rfl
theorem qw2(v n j:Nat)(h:j<n):dg (v%Bs^n) j=dg v j:=by
 unfold dg;obtain⟨k,rfl⟩:∃k,n=j+(k+1):=⟨n-j-1,by omega⟩;rw[xN,Nat.mod_mul_right_div_self,yw,xn (Bs^k),Nat.mod_mul_right_mod]
theorem qut(n a b:Nat)(ha:a<Bs^n)(hb:b<Bs^n)(h:∀j,j<n->dg a j=dg b j):a=b:=by
 have key:∀m,m<=n->a%Bs^m=b%Bs^m:=by
  intro m
  induction m with
  | zero=>intro _;simp[yH]
  | succ m ih=>intro hm;rw[qgu,qgu,ih Q4L,h m Q4L]
 have:=key n (nlr _);rwa[xX ha,xX hb] at this
def cry(a b i:Nat):Nat:=(a%Bs^i+b%Bs^i) / Bs^i
theorem qoi(a b:Nat):cry a b 0=0:=by simp[cry,yH]
theorem qrr(a b i:Nat):cry a b i<=1:=by
 unfold cry;have h1:=xA a (qbr i);have h2:=xA b (qbr i);have:(a%Bs^i+b%Bs^i) / Bs^i<2:=(yq (qbr i)).2 Q4L;omega
theorem qjq(a b i:Nat):dg a i+dg b i+cry a b i=dg (a+b) i+Bs*cry a b (i+1):=by
 have e1:∀m,a+b=(a / Bs^m+b / Bs^m+cry a b m)*Bs^m+(a%Bs^m+b%Bs^m)%Bs^m:=by
  intro m;have ha:=xK a (Bs^m);have hb:=xK b (Bs^m);have hc:=xK (a%Bs^m+b%Bs^m) (Bs^m);unfold cry;generalize Bs^m=q at *;rw[xB,xB,xn (a / q),xn (b / q),xn _ q];omega
 have e2:∀m,(a+b) / Bs^m=a / Bs^m+b / Bs^m+cry a b m:=by
  intro m;have h:=e1 m;have hr:=xA (a%Bs^m+b%Bs^m) (qbr m);rw[h,xn,yS (qbr m),xW hr,yb]
 have s0:=qcj a i;have s1:=qcj b i;have s2:=qcj (a+b) i;have q0:=e2 i;have q1:=e2 (i+1);rw[q0,q1] at s2;generalize a / Bs^(i+1)=x at *;generalize b / Bs^(i+1)=y at *;generalize cry a b (i+1)=z at *;generalize cry a b i=u at *;simp only[Bs] at *;omega
theorem qyk(a b i:Nat):(dg a i+dg b i+cry a b i)%18446744073709551616=dg (a+b) i:=Q2P
theorem quu(a b i:Nat):(dg a i+dg b i+cry a b i) / 18446744073709551616=cry a b (i+1):=Q2P
theorem qyl(x d b B:Nat)(hd:d<B)(hb:0<b):(x%b*B+d) / b=(x*B+d) / b%B/\(x%b*B+d)%b=(x*B+d)%b:=by
 have hq:=xK x b;have hr:=xA x hb;have e:x*B+d=b*(x / b*B)+(x%b*B+d):=by
  have h:x*B=b*(x / b)*B+x%b*B:=by rw[<-xB,hq]
  rw[h,xV,xS]
 have hlt:(x%b*B+d) / b<B:=by
  rw[yq hb];have:(x%b+1)*B<=b*B:=yp _ hr;rw[xB] at this;rw[xn B b];omega
 constructor
 .rw[e,yS hb,xn (x / b) B,yT,xX hlt]
 .rw[e,yT]
theorem quv(a b i:Nat)(hb:0<b):(a / Bs^(i+1)%b*18446744073709551616+dg a i) / b=dg (a / b) i/\(a / Bs^(i+1)%b*18446744073709551616+dg a i)%b=a / Bs^i%b:=by
 have h:=qyl (a / Bs^(i+1)) (dg a i) b Bs (q21 a i) hb;rw[<-qcj] at h;refine⟨?_,h.2⟩;have h1:=h.1;unfold dg at *;rw[h1,yx,yx,xn]
theorem qoj(a i k:Nat)(hk:k<64):dg (a / 2^k) i=dg a i / 2^k+dg a (i+1)*2^(64-k)%18446744073709551616:=by
 have e:Bs=2^k*2^(64-k):=by rw[<-xN,show k+(64-k)=64 by omega]
 have s:=qcj a i;have s1:=qcj a (i+1);have hd:=q21 a i;unfold dg at s1 s hd ⊢;rw[yx,xn (2^k),<-yx];generalize a / Bs^i%Bs=d0 at *;generalize a / Bs^(i+1)%Bs=d1 at *;generalize a / Bs^(i+1)=x at *;generalize a / Bs^(i+1+1)=y at *;rw[s,s1];have hp:0<2^k:=yd Q4P;have hp2:0<2^(64-k):=yd Q4P;generalize 2^k=p at *;generalize 2^(64-k)=q at *;show _=d0 / p+d1*q%Bs;have hd':d0<Bs:=hd;clear s s1 hd hk;generalize Bs=B at *;subst e;rw[show(y*(p*q)+d1)*(p*q)+d0=p*((y*(p*q)+d1)*q)+d0 by rw[Nat.mul_left_comm],yS hp];have hq:d0 / p<q:=by rw[yq hp,xn];exact hd'
 have h2:(y*(p*q)+d1)*q+d0 / p=(p*q)*(y*q)+(d1*q+d0 / p):=by
  rw[xB,xn y (p*q),xV (p*q),xS]
 rw[h2,yT];have h3:=xK (d1*q) (p*q);have h4:d1*q%(p*q)=d1%p*q:=by rw[Nat.mul_mod_mul_right]
 have h5:d1%p*q+d0 / p<p*q:=by
  have:=xA d1 hp;have:(d1%p+1)*q<=p*q:=yp _ this;rw[xB] at this;omega
 rw[show d1*q+d0 / p=p*q*(d1*q / (p*q))+(d1*q%(p*q)+d0 / p) by omega,yT,h4,xX h5];omega
open Go.RowKit
def lim(n:Nat)(f:Nat->Nat):Array Value:=((List.range n).map λj=>Value.int .u64 ((f j:Nat):Int)).toArray
@[simp] theorem lim_size(n:Nat)(f:Nat->Nat):(lim n f).size=n:=by simp[lim]
theorem qdl(n:Nat)(f:Nat->Nat)(j:Nat)(h:j<n):(lim n f)[j]?=some (.int .u64 ((f j:Nat):Int)):=by
 simp[lim,h]
theorem qym(n:Nat)(f:Nat->Nat):(lim n f).all (·.oneCell')=true:=by
 rw[Array.all_eq_true_iff_forall_mem];intro x hx;simp only[lim,List.mem_toArray,xv] at hx;obtain⟨j,_,rfl⟩:=hx;rfl
theorem qhl(n:Nat)(f g:Nat->Nat)(i:Nat)(v:Int)(hi:i<n)(hv:v=((g i:Nat):Int))(h:∀j,j<n->j≠i->f j=g j):(lim n f).setIfInBounds i (.int .u64 v)=lim n g:=by
 apply y4;intro j;rw[yY];by_cases hj:j<n
 .rw[qdl n g j hj];split
  .rename_i e;subst e;rw[if_pos Q5w,hv]
  .rename_i e;rw[qdl n f j hj,h j hj (Ne.symm e)]
 .rw[Array.getElem?_eq_none Q5o,Array.getElem?_eq_none Q5o,if_neg Q4L]
theorem qce(n:Nat)(f g:Nat->Nat)(h:∀j,j<n->f j=g j):lim n f=lim n g:=by
 unfold lim;congr 1;apply xT;intro j hj;rw[h j Q5w]
def sz(v:Nat):Array Value:=lim 16 (dg v)
@[simp] theorem sz_size(v:Nat):(sz v).size=16:=lim_size _ _
theorem qhm(v j:Nat)(h:j<16):(sz v)[j]?=some (.int .u64 ((dg v j:Nat):Int)):=qdl _ _ _ h
theorem qby(v:Nat):(sz v).all (·.oneCell')=true:=qym _ _
theorem qdc:sz 0 = #[.int .u64 0,.int .u64 0,.int .u64 0,.int .u64 0,.int .u64 0,.int .u64 0,.int .u64 0,.int .u64 0,.int .u64 0,.int .u64 0,.int .u64 0,.int .u64 0,.int .u64 0,.int .u64 0,.int .u64 0,.int .u64 0]:=by
 unfold sz;rw[qce 16 (dg 0) (λ_=>0) (λj _=>qe0 j)];rfl
theorem qcs(v:Nat)(h:v<18446744073709551616)(j:Nat):dg v j=if j=0 then v else 0:=by
 split
 .subst j;simp[dg];exact h
 .apply qip;exact xh h (yU Q4L Bs)
theorem quw(v:Nat)(h:v<18446744073709551616):sz v = #[.int .u64 v,.int .u64 0,.int .u64 0,.int .u64 0,.int .u64 0,.int .u64 0,.int .u64 0,.int .u64 0,.int .u64 0,.int .u64 0,.int .u64 0,.int .u64 0,.int .u64 0,.int .u64 0,.int .u64 0,.int .u64 0]:=by
 unfold sz;rw[qce 16 (dg v) (λj=>if j=0 then v else 0) (λj _=>qcs v h j)];rfl
def wi(neg over:Bool)(v:Nat):Array Value:=#[.bool neg,.bool over]++sz v
@[simp] theorem wi_size(neg over:Bool)(v:Nat):(wi neg over v).size=18:=by simp[wi]
theorem qw3(neg over:Bool)(v:Nat):(wi neg over v)[0]?=some (.bool neg):=by simp[wi,y6]
theorem qrs(neg over:Bool)(v:Nat):(wi neg over v)[1]?=some (.bool over):=by simp[wi,y6]
theorem qw4(neg over:Bool)(v j:Nat)(h:j<16):(wi neg over v)[2+j]?=some (.int .u64 ((dg v j:Nat):Int)):=by
 rw[wi,y6,if_neg Q4X,show 2+j - #[Value.bool neg,Value.bool over].size=j by simp];exact qhm v j h
theorem qhn(neg over:Bool)(v:Nat):(wi neg over v).all (·.oneCell')=true:=by
 unfold wi;rw[Array.all_append,qby];simp[Value.oneCell']
def IsRow(w:World)(g:Nat)(t:TypeId)(cs:Array Value):Prop:=w.heap[g]?=some (.cells cs t (0,0))
section
variable{w:World}{g:Nat}{t:TypeId}{cs:Array Value}
theorem IsRow.lt(h:IsRow w g t cs):g<w.heap.size:=(xJ.1 h).1
theorem IsRow.cell(h:IsRow w g t cs){j:Nat}{v:Value}(hv:cs[j]?=some v):w.cell? ⟨g,j,none⟩=some v:=by
 rw[cell_of_row w g j cs t _ h];exact hv
theorem IsRow.frozen(h:IsRow w g t cs)(j:Nat):w.frozen? ⟨g,j,none⟩=false:=by
 simp[World.frozen?,show w.heap[g]?=some (.cells cs t (0,0)) from h]
theorem IsRow.alloc(h:IsRow w g t cs)(o:Obj):IsRow (w.alloc o) g t cs:=by
 have:=h.lt;unfold IsRow World.alloc at *;simp only[Array.getElem?_push];rw[if_neg Q4L];exact h
theorem IsRow.drew(h:IsRow w g t cs):IsRow w.drew g t cs:=h
theorem IsRow.drewN(h:IsRow w g t cs)(n:Nat):IsRow (w.drewN n) g t cs:=h
theorem IsRow.new(w:World)(cs:Array Value)(t:TypeId):IsRow (w.alloc (.cells cs t)) w.heap.size t cs:=by
 unfold IsRow World.alloc;simp
theorem IsRow.set(h:IsRow w g t cs)(i:Nat)(v:Value):IsRow (w.setCell ⟨g,i,none⟩ v) g t (cs.setIfInBounds i v):=by
 unfold IsRow;rw[setCell_eq_setRow w g i cs t _ v h];exact setRow_heap w g cs _ t _ h
theorem IsRow.setOther(h:IsRow w g t cs)(a:Addr)(v:Value)(hne:a.block≠g):IsRow (w.setCell a v) g t cs:=by
 unfold IsRow World.setCell at *;simp only[yV];rw[if_neg hne];exact h
theorem IsRow.row(h:IsRow w g t cs)(ds:Array Value):IsRow (w.setRow g ds) g t ds:=setRow_heap w g cs ds t _ h
theorem IsRow.rowOther(h:IsRow w g t cs)(k:Nat)(ds:Array Value)(hne:g≠k):IsRow (w.setRow k ds) g t cs:=(setRow_other w k g ds hne).trans h
theorem IsRow.below{w':World}{B:Nat}(h:IsRow w g t cs)(hb:Below B w w')(hg:g<B):IsRow w' g t cs:=(hb.block g hg).trans h
end
def Digs(w:World)(g o v:Nat):Prop:=∀j,j<16->w.cell? ⟨g,o+j,none⟩=some (.int .u64 ((dg v j:Nat):Int))
theorem Digs.of_sz{g:Nat}{t:TypeId}{v:Nat}(h:IsRow w g t (sz v)):Digs w g 0 v:=λj hj=>by
 rw[xj];exact h.cell (qhm v j hj)
theorem Digs.of_wi{g:Nat}{t:TypeId}{neg over:Bool}{v:Nat}(h:IsRow w g t (wi neg over v)):Digs w g 2 v:=λj hj=>h.cell (qw4 neg over v j hj)
theorem Digs.lt{g o v:Nat}(h:Digs w g o v):g<w.heap.size:=World.block_lt_of_cell? _ _ (h 0 Q4L)
theorem Digs.below{w':World}{g o v B:Nat}(h:Digs w g o v)(hb:Below B w w')(hg:g<B):Digs w' g o v:=λj hj=>(hb.cell (p:=⟨g,o+j,none⟩) hg).trans (h j hj)
variable{ops:Array Oper}{rest:List Oper}{a:Act}{Q:Exit->Act->World->Prop}
theorem qct{o:Oper}(hg:o.guard=none)(t:TypeId)(i:Nat)(x:Operand)(ho:o.op=.build t #[(i,x)])
  (v:Value) (hv:a.eval x=v) (cs:Array Value) (hb:P.built t [(i,v)]=some cs)
  (h:wpList P ops Q rest (a.put o.dst (.agg cs)) w):wpList P ops Q (o::rest) a w:=by
 subst hv
 have e:((#[(i,x)]:Array (Nat×Operand)).map fun(i,x)=>(i,a.eval x)).toList=[(i,a.eval x)]:=by simp
 refine wpList_build hg t _ ho ?_ ?_
 .rw[e,hb];rfl
 .rw[e,hb];exact h
theorem qfm{o:Oper}(hg:o.guard=none)(t:TypeId)(i j:Nat)(x y:Operand)(ho:o.op=.build t #[(i,x),(j,y)])
  (u v:Value) (hu:a.eval x=u) (hv:a.eval y=v) (cs:Array Value) (hb:P.built t [(i,u),(j,v)]=some cs)
  (h:wpList P ops Q rest (a.put o.dst (.agg cs)) w):wpList P ops Q (o::rest) a w:=by
 subst hu hv
 have e:((#[(i,x),(j,y)]:Array (Nat×Operand)).map fun(i,x)=>(i,a.eval x)).toList=[(i,a.eval x),(j,a.eval y)]:=by simp
 refine wpList_build hg t _ ho ?_ ?_
 .rw[e,hb];rfl
 .rw[e,hb];exact h
theorem qfn{o:Oper}(hg:o.guard=none)(t:TypeId)(ho:o.op=.build t #[])
  (cs:Array Value) (hb:P.built t []=some cs)
  (h:wpList P ops Q rest (a.put o.dst (.agg cs)) w):wpList P ops Q (o::rest) a w:=by
 have e:((#[]:Array (Nat×Operand)).map fun(i,x)=>(i,a.eval x)).toList=[]:=by simp
 refine wpList_build hg t _ ho ?_ ?_
 .rw[e,hb];rfl
 .rw[e,hb];exact h
theorem qgm(w:World)(g o:Nat)(ty:TypeId)(cs:Array Value)(d:TypeDesc)(hc:∀j v,cs[j]?=some v->w.cell? ⟨g,o+j,none⟩=some v)
  (hu:P.underlying ty=some d) (hd:(match d with|.struct _|.array _ _=>true|_=>false)=true) (hi:(P.info? ty).map (·.size)=some cs.size) :
  (loadVar ty ⟨g,o,none⟩).run P w=.ok (.agg cs) w:=by
 have hl:(loadCells ⟨g,o,none⟩ cs.toList.length).run P w=.ok cs.toList.toArray w:=
  run_loadCells_list (P:=P) w ⟨g,o,none⟩ cs.toList (λj v hv=>by
   have hadd:(⟨g,o,none⟩:Addr).add j=⟨g,o+j,none⟩:=by unfold Addr.add;split<;>simp_all
   rw[hadd];exact hc j v (by simpa using hv))
 cases hq:P.info? ty with
 | none=>simp[hq] at hi
 | some i=>
  have hs:i.size=cs.size:=by simpa[hq] using hi
  have hagg:(isAgg ty).run P w=.ok true w:=by
   unfold isAgg;rw[Sem.run_bind,run_underlying hu w];cases d<;>simp_all
  simp only[Array.length_toList,Array.toArray_toList] at hl;simp[loadVar,Sem.run_bind,hagg,sizeOf,typeInfo,hq,hs,hl]
theorem qck{o:Oper}(hgd:o.guard=none)(ty:TypeId)(x:Operand)(ho:o.op=.load ty x)
  (g k:Nat) (hx:a.eval x=.pointer (some ⟨g,k,none⟩)) (cs:Array Value) (d:TypeDesc) (hc:∀j v,cs[j]?=some v->w.cell? ⟨g,k+j,none⟩=some v)
  (hu:P.underlying ty=some d) (hd:(match d with|.struct _|.array _ _=>true|_=>false)=true) (hi:(P.info? ty).map (·.size)=some cs.size)
  (h:wpList P ops Q rest (a.put o.dst (.agg cs)) w):wpList P ops Q (o::rest) a w:=
 wpList_plain hgd λ_ hK=>by
  unfold Oper.wp execOp;simp only[ho,hx,Instr.loadAt,Instr.sureAddr,Sem.run_bind,Sem.run_pure,Result.andThen_ok,qgm w g k ty cs d hc hu hd hi];exact hK _ _ h
theorem Digs.cells{g o v:Nat}(h:Digs w g o v):∀j u,(sz v)[j]?=some u->w.cell? ⟨g,o+j,none⟩=some u:=λj u hu=>by
 have hj:j<16:=by
  rcases yg j 16 with h|h
  .exact h
  .rw[Array.getElem?_eq_none Q5u] at hu;cases hu
 rw[qhm v j hj] at hu;rw[h j hj];exact hu
section
variable{P:Program}{ops:Array Oper}{rest:List Oper}{o:Oper}{a:Act}{w:World}{Q:Act->Prop}
theorem qcl(hw:Region.wanted o (yielded ops a.tmps)=true)(ty:TypeId)(x:Operand)(ho:o.op=.load ty x)
  (g:Nat) (hx:a.eval x=.pointer (some ⟨g,0,none⟩)) (t:TypeId) (cs:Array Value) (fr:Nat×Nat) (d:TypeDesc) (hg:w.heap[g]?=some (.cells cs t fr))
  (hu:P.underlying ty=some d) (hd:(match d with|.struct _|.array _ _=>true|_=>false)=true) (hi:(P.info? ty).map (·.size)=some cs.size)
  (h:wpStill P ops w Q rest (a.put o.dst (.agg cs))):wpStill P ops w Q (o::rest) a:=by
 unfold wpStill
 rw[if_pos hw]
 unfold Oper.still execOp
 simp only[ho,hx,Instr.loadAt,Instr.sureAddr,Sem.run_bind,Sem.run_pure,Result.andThen_ok,run_loadVar_row w g t ty cs fr d hg hu hd hi]
 exact⟨rfl,h⟩
theorem qdm(hw:Region.wanted o (yielded ops a.tmps)=true)(t:TypeId)(ho:o.op=.build t #[])
  (cs:Array Value) (hb:P.built t []=some cs)
  (h:wpStill P ops w Q rest (a.put o.dst (.agg cs))):wpStill P ops w Q (o::rest) a:=by
 have e:((#[]:Array (Nat×Operand)).map fun(i,x)=>(i,a.eval x)).toList=[]:=by simp
 unfold wpStill
 rw[if_pos hw]
 unfold Oper.still execOp
 simp only[ho,Sem.run_bind,run_build w t _ cs (e▸hb),Result.andThen_ok]
 exact⟨rfl,h⟩
theorem qdn(hw:Region.wanted o (yielded ops a.tmps)=true)(t:TypeId)(i j:Nat)(x y:Operand)(ho:o.op=.build t #[(i,x),(j,y)])
  (u v:Value) (hu:a.eval x=u) (hv:a.eval y=v) (cs:Array Value) (hb:P.built t [(i,u),(j,v)]=some cs)
  (h:wpStill P ops w Q rest (a.put o.dst (.agg cs))):wpStill P ops w Q (o::rest) a:=by
 subst hu hv
 have e:((#[(i,x),(j,y)]:Array (Nat×Operand)).map fun(i,x)=>(i,a.eval x)).toList=[(i,a.eval x),(j,a.eval y)]:=by simp
 unfold wpStill
 rw[if_pos hw]
 unfold Oper.still execOp
 simp only[ho,Sem.run_bind,run_build w t _ cs (e▸hb),Result.andThen_ok]
 exact⟨rfl,h⟩
end
section
variable{P:Program}{ops:Array Oper}{rest:List Oper}{o:Oper}{a:Act}{w:World}
variable{ty:TypeId}{x:Operand}
theorem qm4{Q:Act->Prop}(ho:o.op=.load ty x)(h:wpStill P ops w Q (o::rest) a):wpStill P ops w Q (o::rest) a:=h
variable{ps:Array (Nat×Operand)}
theorem qeo{Q:Act->Prop}(ho:o.op=.build ty ps)(h:wpStill P ops w Q (o::rest) a):wpStill P ops w Q (o::rest) a:=h
variable{Q:Exit->Act->World->Prop}
theorem qcb(ho:o.op=.load ty x)(h:wpList P ops Q (o::rest) a w):wpList P ops Q (o::rest) a w:=h
theorem qdg(ho:o.op=.build ty ps)(h:wpList P ops Q (o::rest) a w):wpList P ops Q (o::rest) a w:=h
theorem qbc{y:Operand}(ho:o.op=.store ty x y)(h:wpList P ops Q (o::rest) a w):wpList P ops Q (o::rest) a w:=h
end
section
variable{P:Program}{ops:Array Oper}{o:Oper}{a:Act}{w:World}{K:Act->World->Prop}{Q:Exit->Act->World->Prop}{E:Prop}
theorem qb7(hg:o.guard=none)(ty:TypeId)(x:Operand)(ho:o.op=.load ty x)
  (g:Nat) (hx:a.eval x=.pointer (some ⟨g,0,none⟩)) (t:TypeId) (cs:Array Value) (fr:Nat×Nat) (d:TypeDesc) (hr:w.heap[g]?=some (.cells cs t fr))
  (hu:P.underlying ty=some d) (hd:(match d with|.struct _|.array _ _=>true|_=>false)=true) (hi:(P.info? ty).map (·.size)=some cs.size)
  (hK:K (a.put o.dst (.agg cs)) w):if Region.wanted o (yielded ops a.tmps)=true then Oper.wp P o a w K Q else E:=by
 have hw:Region.wanted o (yielded ops a.tmps)=true:=by simp[Region.wanted,hg]
 rw[if_pos hw]
 exact wp_load_row ty x ho g hx t cs fr d hr hu hd hi hK
theorem qbm(hg:o.guard=none)(ty:TypeId)(x y:Operand)(ho:o.op=.store ty x y)
  (g:Nat) (cells:Array Value) (hx:a.eval x=.pointer (some ⟨g,0,none⟩)) (hy:a.eval y=.agg cells)
  (t:TypeId) (old:Array Value) (hr:w.heap[g]?=some (.cells old t (0,0))) (hi:(P.info? ty).map (·.size)=some cells.size)
  (hold:old.size=cells.size) (h1:cells.all (·.oneCell')=true)
  (hK:K (a.put o.dst undef) (w.setRow g cells)):if Region.wanted o (yielded ops a.tmps)=true then Oper.wp P o a w K Q else E:=by
 have hw:Region.wanted o (yielded ops a.tmps)=true:=by simp[Region.wanted,hg]
 rw[if_pos hw]
 exact wp_store_row ty x y ho g cells hx hy t old hr hi hold h1 hK
end
theorem qcu{fn:Func}{p q:Tmp}{t1 t2:TypeId}(h:fn.results = #[.cell p t1,.cell q t2])(tmps:Array Value)(w:World)(A1 A2:Addr)(v1 v2:Value)
  (hp:tmps.getD p undef=.pointer (some A1)) (hq:tmps.getD q undef=.pointer (some A2)) (h1:(loadVar t1 A1).run P w=.ok v1 w) (h2:(loadVar t2 A2).run P w=.ok v2 w) :
  (results fn tmps).run P w=.ok (.tuple #[v1,v2]) w:=by
 have hp':tmps[p]?.getD undef=.pointer (some A1):=by simpa using hp
 have hq':tmps[q]?.getD undef=.pointer (some A2):=by simpa using hq
 simp[results,h,hp',hq',asAddr,h1,h2]
end Go.Proofs.YtggfpcfkbilkmaaGreatDoor


namespace Go.Proofs
open Go.Shelf
def Tryz.lays134_ren:Go.Shelf.Ren:=⟨fun|134=>294|129=>84|n=>n,fun|53=>31|3=>3|4=>4|46=>126|5=>5|9=>9|n=>n,fun|n=>n⟩
theorem Tryz.lays134:Go.Proofs.Lays.n134 prog Tryz.lays134_ren:={
 mixed:=by kernel_rfl
 f129:=func84.trans (congrArg some Q4Q)
 f134:=func294.trans (congrArg some Q4Q)
 t3:=underlying3
 a3:=Tryz.isAgg3
 z3:=Tryz.sizeOf3
 v3:=Tryz.zeroValue3
 t4:=underlying4
 a4:=Tryz.isAgg4
 z4:=Tryz.sizeOf4
 v4:=Tryz.zeroValue4
 t5:=underlying5
 a5:=Tryz.isAgg5
 z5:=Tryz.sizeOf5
 v5:=Tryz.zeroValue5
 t9:=underlying9
 a9:=Tryz.isAgg9
 z9:=Tryz.sizeOf9
 v9:=Tryz.zeroValue9
 t46:=underlying126
 a46:=Tryz.isAgg126
 z46:=Tryz.sizeOf126
 v46:=Tryz.zeroValue126
 t53:=underlying31
 a53:=Tryz.isAgg31
 z53:=Tryz.sizeOf31
 v53:=Tryz.zeroValue31 }
theorem Tryz.bits_LeadingZeros64(x:Int)(w:World)(h0:0<=x)(h1:x<=18446744073709551615):
  Calls prog 294 #[.int .u64 x] w λe w'=>e=.returned (xc (64-(Lib.bitLen x.toNat:Int)))/\w'=w:=Any.bits_LeadingZeros64 Tryz.lays134 x w h0 h1
def Tryz.lays129_ren:Go.Shelf.Ren:=⟨fun|129=>84|n=>n,fun|53=>31|3=>3|4=>4|46=>126|5=>5|9=>9|n=>n,fun|n=>n⟩
theorem Tryz.lays129:Go.Proofs.Lays.n129 prog Tryz.lays129_ren:={
 mixed:=by kernel_rfl
 f129:=func84.trans (congrArg some Q4Q)
 t3:=underlying3
 a3:=Tryz.isAgg3
 z3:=Tryz.sizeOf3
 v3:=Tryz.zeroValue3
 t4:=underlying4
 a4:=Tryz.isAgg4
 z4:=Tryz.sizeOf4
 v4:=Tryz.zeroValue4
 t5:=underlying5
 a5:=Tryz.isAgg5
 z5:=Tryz.sizeOf5
 v5:=Tryz.zeroValue5
 t9:=underlying9
 a9:=Tryz.isAgg9
 z9:=Tryz.sizeOf9
 v9:=Tryz.zeroValue9
 t46:=underlying126
 a46:=Tryz.isAgg126
 z46:=Tryz.sizeOf126
 v46:=Tryz.zeroValue126
 t53:=underlying31
 a53:=Tryz.isAgg31
 z53:=Tryz.sizeOf31
 v53:=Tryz.zeroValue31 }
theorem Tryz.bits_Len64(x:Int)(w:World)(h0:0<=x)(h1:x<=18446744073709551615):
  Calls prog 84 #[.int .u64 x] w λe w'=>e=.returned (xc (Lib.bitLen x.toNat))/\w'=w:=Any.bits_Len64 Tryz.lays129 x w h0 h1
def Tryz.lays264_ren:Go.Shelf.Ren:=⟨fun|264=>187|n=>n,fun|53=>31|46=>126|n=>n,fun|n=>n⟩
theorem Tryz.lays264:Go.Proofs.Lays.n264 prog Tryz.lays264_ren:={
 mixed:=by kernel_rfl
 f264:=func187.trans (congrArg some Q4Q)
 t46:=underlying126
 a46:=Tryz.isAgg126
 z46:=Tryz.sizeOf126
 v46:=Tryz.zeroValue126
 t53:=underlying31
 a53:=Tryz.isAgg31
 z53:=Tryz.sizeOf31
 v53:=Tryz.zeroValue31 }
open Go.RowKit Go.Lib in
theorem Tryz.bits_Mul64(x y:Nat)(hx:x<18446744073709551616)(hy:y<18446744073709551616)(w:World):
  Calls prog 187 #[.int .u64 x,.int .u64 y] w λe w'=>e=.returned (.tuple #[.int .u64 ((x*y / 18446744073709551616:Nat):Int),.int .u64 ((x*y%18446744073709551616:Nat):Int)])/\w'=w:=Any.bits_Mul64 Tryz.lays264 x y hx hy w
namespace YtggfpcfkbilkmaaGreatDoor
open Go.RowKit
theorem add64(x y c:Int)(hx:0<=x)(hx':x<18446744073709551616)(hy:0<=y)(hy':y<18446744073709551616)(hc0:0<=c)(hc:c<=1)(w:World):(callFunc 188 #[.int .u64 x,.int .u64 y,.int .u64 c]).run prog w =
  .ok (.value (.tuple #[.int .u64 ((x+y+c)%18446744073709551616),.int .u64 ((x+y+c) / 18446744073709551616)])) w:=by
 obtain⟨x,rfl⟩:=za hx
 obtain⟨y,rfl⟩:=za hy
 obtain⟨c,rfl⟩:=za hc0
 rw[run_callFunc_extern func188 Q4Q Q4Q Q4Q (e:=add64Entry) Q4Q,run_add64 x y c Q4L Q4L Q4L Q4L]
 simp only[Result.andThen]
end YtggfpcfkbilkmaaGreatDoor
end Go.Proofs


namespace Go.Proofs.YtggfpcfkbilkmaaGreatDoor
open Go.RowKit
def ndTo(v:Nat):Nat->Nat
 | 0=>0
 | n+1=>if dg v n=0 then ndTo v n else n+1
def nd(v:Nat):Nat:=ndTo v 16
theorem qyn(v n:Nat):ndTo v n<=n:=by
 induction n with
 | zero=>exact nlr _
 | succ n ih=>unfold ndTo;split<;>omega
theorem nd_le(v:Nat):nd v<=16:=qyn v 16
theorem qfo(g o v:Nat)(w:World)(hd:Digs w g o v):
  Calls prog 186 #[.pointer (some ⟨g,o,none⟩)] w λe w'=>e=.returned (xc (nd v))/\w=w':=by
 have HD:=Lib.hid hd
 clear hd
 have hle:=nd_le v
 go_enter func186,Tryz.ntmps186
 go_wp2
 go_loopw [3] (λi wr=>wr=w/\∃n:Nat,n<=16/\i=xc n/\ndTo v n=nd v) (λi _=>(intOf i).toNat)
 case atStart=>exact⟨rfl,16,nlr _,rfl,rfl⟩
 case round=>
  obtain⟨rfl,n,hn,rfl,hq⟩:=hrel
  match n,hn,hq with
  | 0,hn,hq=>
   have hq':nd v=0:=hq.symm
   go_wp2_with fail
   go_ret
   exact⟨by rw[hq'];rfl,rfl⟩
  | n+1,hn,hq=>
   have hc:=HD.out n Q4L;have e1:((n+1:Nat):Int)-1=n:=by omega
   by_cases hz:dg v n=0
   .have hq2:ndTo v n=nd v:=by rw[<-hq];rw[ndTo,if_pos hz]
    rw[hz] at hc
    go_wp2_with fail
    go_roundw
    case rel=>exact⟨by first|trivial|rfl,n,by omega,by go_num,hq2⟩
    case measure=>simp[intOf]
   .have hq2:nd v=n+1:=by rw[<-hq];rw[ndTo,if_neg hz]
    go_wp2_with fail
    go_ret
    exact⟨by rw[hq2];rfl,rfl⟩
def lb(n:Nat):Nat:=Lib.bitLen n
theorem q7q(n:Nat)(h:n<18446744073709551616):lb n<=64:=Lib.bitLen_le n 64 (nlr _) h
theorem qrt(n:Nat)(hn:n<18446744073709551616)(w:World):Calls prog 84 #[.int .u64 n] w λe w'=>e=.returned (xc (lb n))/\w=w':=
 (Tryz.bits_Len64 n w Q4L Q4L).mono λe w' h=>⟨h.1,h.2.symm⟩
def bl(v:Nat):Nat:=if nd v=0 then 0 else 64*(nd v-1)+lb (dg v (nd v-1))
theorem qgv(g o v:Nat)(w:World)(hd:Digs w g o v):
  Calls prog 221 #[.pointer (some ⟨g,o,none⟩)] w λe w'=>e=.returned (xc (bl v))/\w=w':=by
 have HD:=Lib.hid hd
 clear hd
 have hle:=nd_le v
 go_enter func221,Tryz.ntmps221
 go_wp2_with fail
 refine(qfo g o v _ HD.out).mono ?_
 rintro e w' ⟨rfl,rfl⟩
 by_cases hz:nd v=0
 .have hb:bl v=0:=by unfold bl;rw[if_pos hz]
  rw[hz]
  go_wp2_with fail
  go_ret
  exact⟨by rw[hb];rfl,rfl⟩
 .obtain⟨n,hn⟩:∃n,nd v=n+1:=⟨nd v-1,by omega⟩;have hb:bl v=64*n+lb (dg v n):=by unfold bl;rw[if_neg hz,hn];rfl
  rw[hn];have e1:((n+1:Nat):Int)-1=n:=by omega
  have hc:=HD.out n Q4L;have hlt:=q21 v n;have hlb:=q7q _ hlt;have hw:wrap64 (64*(n:Int)+(lb (dg v n):Int))=((64*n+lb (dg v n):Nat):Int):=by unfold wrap64;omega
  go_wp2_with fail
  refine(qrt _ hlt _).mono ?_;rintro e w' ⟨rfl,rfl⟩
  go_wp2_with fail
  go_ret
  exact⟨by rw[hb];exact qx9 Q4L,rfl⟩
def cm(a b:Nat):Int:=if a<b then -1 else if b<a then 1 else 0
theorem qm5(g o a h p b:Nat)(w:World)(hd:Digs w g o a)(he:Digs w h p b)(ha:a<Bs^16)(hb:b<Bs^16):
  Calls prog 194 #[.pointer (some ⟨g,o,none⟩),.pointer (some ⟨h,p,none⟩)] w λe w'=>e=.returned (xc (cm a b))/\Below w.heap.size w w'/\w.heap.size=w'.heap.size:=by
 have HD:=Lib.hid hd
 have HE:=Lib.hid he
 clear hd he
 go_enter func194,Tryz.ntmps194
 go_wp2
 go_loopw [5] (λi wr=>(∃n:Nat,n<=16/\i=xc (n-1)/\a / Bs^n=b / Bs^n)/\Below w.heap.size w wr/\w.heap.size=wr.heap.size) (λi _=>(intOf i+1).toNat)
 case atStart=>exact⟨⟨16,by omega,rfl,by rw[xW ha,xW hb]⟩,Below.refl _ _,rfl⟩
 case round=>
  obtain⟨⟨n,hn,rfl,hq⟩,hbel,hsz⟩:=hrel
  match n,hn,hq with
  | 0,hn,hq=>
   simp only[Nat.pow_zero,Nat.div_one] at hq;have hc:cm a b=0:=by unfold cm;rw[if_neg Q4L,if_neg Q4L]
   go_wp2_with fail
   go_ret
   exact⟨by rw[hc];rfl,hbel,hsz⟩
  | n+1,hn,hq=>
   have e1:((n+1:Nat):Int)-1=n:=by omega
   rw[e1];have c1:wr.cell? ⟨g,o+n,none⟩=some (.int .u64 ((dg a n:Nat):Int)):=(hbel.cell (p:=⟨g,o+n,none⟩) HD.out.lt).trans (HD.out n Q4L);have c2:wr.cell? ⟨h,p+n,none⟩=some (.int .u64 ((dg b n:Nat):Int)):=(hbel.cell (p:=⟨h,p+n,none⟩) HE.out.lt).trans (HE.out n Q4L);have s1:=qcj a n;have s2:=qcj b n;rw[hq] at s1;have hbel1:Below w.heap.size w wr.drew:=hbel.drew;by_cases hlt:dg a n<dg b n
   .have hcm:cm a b = -1:=by
     unfold cm;have key:a<b:=Nat.lt_of_div_lt_div (c:=Bs^n) Q4L;rw[if_pos key]
    clear s1 s2 hq;have hlt':((dg a n:Nat):Int)<((dg b n:Nat):Int):=by omega
    go_wp2_with fail
    go_region
    go_wp2_with fail
    go_ret
    exact Q4m
   .have hlt':decide (((dg a n:Nat):Int)<((dg b n:Nat):Int))=false:=xl Q4L;by_cases hgt:dg b n<dg a n
    .have hcm:cm a b=1:=by
      unfold cm;have key:b<a:=Nat.lt_of_div_lt_div (c:=Bs^n) Q4L;rw[if_neg Q4L,if_pos key]
     clear s1 s2 hq;have hgt':((dg b n:Nat):Int)<((dg a n:Nat):Int):=by omega
     go_wp2_with fail
     go_region
     go_wp2_with fail
     go_region
     go_wp2_with fail
     go_ret
     exact Q4m
    .have hgt':decide (((dg b n:Nat):Int)<((dg a n:Nat):Int))=false:=xl Q4L;have hqq:a / Bs^n=b / Bs^n:=by omega
     clear s1 s2 hq
     go_wp2_with fail
     go_region
     go_wp2_with fail
     go_region
     go_wp2_with fail
     go_roundw
     case rel=>exact⟨⟨n,by omega,by go_num,hqq⟩,by repeat (first|with_reducible exact hbel|with_reducible apply Below.drew|with_reducible apply qbv),hsz⟩
     case measure=>simp[intOf]
def q3p(a b i:Nat):Nat->Nat:=λj=>if j<i then dg (a+b) j else 0
theorem qru(g o a h p b:Nat)(w:World)(hd:Digs w g o a)(he:Digs w h p b):
  xa 193 #[.pointer (some ⟨g,o,none⟩),.pointer (some ⟨h,p,none⟩)] w (.tuple #[.agg (sz (a+b)),.int .u64 (cry a b 16)]):=by
 have HD:=Lib.hid hd
 have HE:=Lib.hid he
 clear hd he
 go_enter func193,Tryz.ntmps193
 go_wp2
 go_loopw [7,9] (λc i wr=>∃k:Nat,k<=16/\i=xc k/\c=.int .u64 (cry a b k)/\IsRow wr (w.heap.size+1) 137 (lim 16 (q3p a b k))/\IsRow wr w.heap.size 137 (sz 0)/\Below w.heap.size w wr) (λ_ i _=>16-(intOf i).toNat)
 case atStart=>
  refine⟨0,by omega,rfl,by rw[qoi];rfl,?_,?_,by repeat (first|with_reducible exact Below.refl _ _|with_reducible refine Below.alloc ?_ Q4S _)⟩
  .rw[qce 16 (q3p a b 0) (dg 0) (λj _=>by rw[qe0];unfold q3p;rw[if_neg Q4L])];exact Q0V
  .exact Q2D
 case round=>
  obtain⟨k,hk,rfl,rfl,hrow,hres,hbel⟩:=hrel
  by_cases hlt:k<16
  .have c1:wr.cell? ⟨g,o+k,none⟩=some (.int .u64 ((dg a k:Nat):Int)):=(hbel.cell (p:=⟨g,o+k,none⟩) HD.out.lt).trans (HD.out k hlt);have c2:wr.cell? ⟨h,p+k,none⟩=some (.int .u64 ((dg b k:Nat):Int)):=(hbel.cell (p:=⟨h,p+k,none⟩) HE.out.lt).trans (HE.out k hlt);have c3:=hrow.cell (qdl 16 (q3p a b k) k hlt);have f3:=hrow.frozen k;have hz:=hbel.size;have q1:=q21 a k;have q2:=q21 b k;have q3:=qrr a b k;have ha:∀w:World,(callFunc 188 #[.int .u64 (dg a k:Nat),.int .u64 (dg b k:Nat),.int .u64 (cry a b k:Nat)]).run prog w =
    .ok (.value (.tuple #[.int .u64 (dg (a+b) k:Nat),.int .u64 (cry a b (k+1):Nat)])) w:=λw=>by
    rw[add64 _ _ _ Q4L Q4L Q4L Q4L Q4L Q4L]
    have e1:=qyk a b k
    have e2:=quu a b k
    rw[show((dg a k:Nat):Int)+(dg b k:Nat)+(cry a b k:Nat)=((dg a k+dg b k+cry a b k:Nat):Int) by omega]
    rw[show(((dg a k+dg b k+cry a b k:Nat):Int)%18446744073709551616)=((dg (a+b) k:Nat):Int) by omega]
    rw[show(((dg a k+dg b k+cry a b k:Nat):Int) / 18446744073709551616)=((cry a b (k+1):Nat):Int) by omega]
   go_wp2_with fail
   go_region
   go_wp2_with fail
   go_roundw
   case rel=>
    refine⟨k+1,by omega,by go_num,rfl,?_,?_,by repeat (first|with_reducible exact hbel|with_reducible apply Below.drew|with_reducible apply qbv|with_reducible refine Below.setCell ?_ Q4S _)⟩
    .have:=hrow.drew.set k (.int .u64 (dg (a+b) k:Nat));rw[qhl 16 (q3p a b k) (q3p a b (k+1)) k _ hlt (by unfold q3p;rw[if_pos Q4L]) (λj hj hne=>by unfold q3p;by_cases hjk:j<k<;>simp[hjk,show j<k+1↔j<k by omega])] at this;exact this
    .exact hres.drew.setOther _ _ Q4X
   case measure=>simp[intOf];omega
  .obtain rfl:k=16:=by omega
   rw[qce 16 (q3p a b 16) (dg (a+b)) (λj hj=>by unfold q3p;rw[if_pos hj])] at hrow;have hrow':IsRow wr (w.heap.size+1) 137 (sz (a+b)):=hrow;clear hrow
   go_wp2_with (first|(refine wpList_load_row rfl 137 _ rfl (w.heap.size+1) rfl _ (sz (a+b)) _ _ hrow' underlying137 rfl Q4V ?_)|(refine wpList_store_row rfl 137 _ _ rfl w.heap.size (sz (a+b)) rfl rfl _ (sz 0) hres Q4V Q4X (qby _) ?_))
   have hrow2:=hres.row (sz (a+b));have hl:=run_loadVar_row (P:=prog) (wr.setRow w.heap.size (sz (a+b))) w.heap.size _ 137 (sz (a+b)) _ _ hrow2 underlying137 rfl Q4V;refine bodyPost_ret (v:=.tuple #[.agg (sz (a+b)),.int .u64 (cry a b 16:Nat)]) (by simp[results,Tryz.results193,asAddr,hl]) rfl ⟨rfl,below_setRow hbel (nlr _) _⟩
open Go Go.RowKit Sx
def limL(n:Nat)(f:Nat->Nat):List Value:=(List.range n).map λj=>.int .u64 ((f j:Nat):Int)
theorem q0v(n:Nat)(f:Nat->Nat):lim n f=⟨limL n f⟩:=rfl
theorem qgw(n:Nat)(f:Nat->Nat):(limL n f).length=n:=by simp[limL]
variable{n:Nat}
theorem qd0{f:Nat->Nat}{j:Nat}(h:j<n):(limL n f).getD j undef=.int .u64 ((f j:Nat):Int):=by simp[limL,xH,h]
theorem qok(n:Nat)(f:Nat->Nat):(limL n f).all Value.oneCell'=true:=by simp[limL,Value.oneCell']
theorem qeh{f g:Nat->Nat}(h:∀j,j<n->f j=g j):limL n f=limL n g:=xT λj hj=>by rw[h j Q5w]
theorem qaa(n:Nat)(f:Nat->Nat):flatB (.agg ⟨limL n f⟩) n=true:=by
 simp[flatB,qgw,qok]
theorem qad(n:Nat)(f:Nat->Nat):qaj (.agg ⟨limL n f⟩)=true:=by
 simp[qaj,limL,qa4]
def wiL(neg over:Bool)(v:Nat):List Value:=.bool neg :: .bool over::limL 16 (dg v)
theorem q7r(neg over:Bool)(v:Nat):wi neg over v=⟨wiL neg over v⟩:=by
 apply xy.1;simp[wi,wiL,sz,q0v]
theorem qab(neg over:Bool)(v:Nat):flatB (.agg ⟨wiL neg over v⟩) 18=true:=by
 simp[flatB,wiL,qgw,qok,Value.oneCell']
theorem qaf(neg over:Bool)(v:Nat):qaj (.agg ⟨wiL neg over v⟩)=true:=by
 simp[qaj,wiL,limL,qa4]
theorem qol{F:Nat->Prop}{ρ:Rz}:∀{vs xs:List Value},All2 (Den F ρ) vs xs->xs=vs.map (den ρ)
 | [],[],_=>rfl
 | [],_::_,h=>h.elim
 | _::_,[],h=>h.elim
 | v::vs,x::xs,h=>by rw[xi,qol h.2,h.1.self]
theorem qfp{P:Program}{g:FuncId}{vs:List Value}{h:Hp}{v:Value}(rh:List Nat)(hv:qaq v=true)(hr:∀xs w,(callFunc g xs).run P w=.ok (.enter g xs) w)
  (hc:∀(ρ:Rz)(w:World),(∀i∈rh,∀c,h[i]?=some (some c)->∀j,j<c.n->w.cell? ⟨(ρ i).1,(ρ i).2+j,none⟩=some (den1 ρ (c.f j)))->Calls P g ⟨vs.map (den ρ)⟩ w λe w'=>e=.returned v/\Below w.heap.size w w'):qae P g vs h v [] rh:=
 λh₂ hrh _ X ρ w xs H hx=>by
  have hxs:xs=vs.map (den ρ):=qol hx;subst hxs;refine .inr ⟨hr _ w,(hc ρ w λi hi c hic j hj=>?_).mono ?_⟩
  .obtain⟨x,hx,hd⟩:=H.cell i c ((hrh i hi).trans hic) j hj;rw[hx,hd.self]
  .exact Q1f
def Has(h:Hp)(i f v:Nat):Prop:=∃c,h[i]?=some (some c)/\f+16<=c.n/\∀j,j<16->c.f (f+j)=.int .u64 ((dg v j:Nat):Int)
theorem Has.digs{h:Hp}{i f v:Nat}(hh:Has h i f v){ρ:Rz}{w:World}{rh:List Nat}(hi:i∈rh)(hc:∀i∈rh,∀c,h[i]?=some (some c)->∀j,j<c.n->w.cell? ⟨(ρ i).1,(ρ i).2+j,none⟩=some (den1 ρ (c.f j))):Digs w (ρ i).1 ((ρ i).2+f) v:=λj hj=>by
 obtain⟨c,h1,h2,h3⟩:=hh;rw[xS,hc i hi c h1 (f+j) Q4L,h3 j hj];rfl
theorem qdh{h:Hp}{i v:Nat}{o neg over:Bool}(hi:h[i]?=some (some ⟨o,18,[(0,18,.agg ⟨wiL neg over v⟩)]⟩)):Has h i 2 v:=
 ⟨_,hi,nlr _,λj hj=>by
  refine Q1b ?_;simp only[cellIn,wiL,Nat.sub_zero];rw[show 2+j=j+1+1 by omega];simp only[List.getD_cons_succ];exact qd0 hj⟩
theorem q0w(i f v:Nat)(h:Hp)(hh:Has h i f v):qae prog 186 [.pointer (some ⟨i,f,some 0⟩)] h (xc (nd v)) [] [i]:=
 qfp [i] rfl (call186) λρ w hc=>(qfo (ρ i).1 ((ρ i).2+f) v w (hh.digs Q4X hc)).mono Q5n
theorem qlu{o:Bool}{p q:Nat}{f:Nat->Nat}(hp:p<n)(hq:q=p):Reads ⟨o,n,[(0,n,.agg ⟨limL n f⟩)]⟩ q false 1 (.int .u64 ((f p:Nat):Int)):=by
 subst hq;refine⟨hp,rfl,?_⟩;refine Q1b ?_;exact qd0 hp
theorem qjr{o neg over:Bool}{v p q:Nat}(hp:p<16)(hq:q=2+p):Reads ⟨o,18,[(0,18,.agg ⟨wiL neg over v⟩)]⟩ q false 1 (.int .u64 ((dg v p:Nat):Int)):=by
 subst hq;refine⟨by show 2+p<18;omega,rfl,?_⟩;show qa0 _ _=_;rw[qai,if_pos Q4L];simp only[cellIn,wiL,Nat.sub_zero];rw[show 2+p=p+1+1 by omega];simp only[List.getD_cons_succ];exact qd0 hp
theorem qf9{p q:Nat}{f g:Nat->Nat}{x:Int}(hp:p<n)(hq:q=p)(hx:x=((g p:Nat):Int))(hg:∀k,k<n->k≠p->g k=f k):Writes ⟨true,n,[(0,n,.agg ⟨limL n f⟩)]⟩ q 1 (.int .u64 x) ⟨true,n,[(0,n,.agg ⟨limL n g⟩)]⟩:=by
 subst hq;refine⟨rfl,hp,rfl,λk hk=>?_⟩;have hk:k<n:=hk;have e:∀f:Nat->Nat,(⟨true,n,[(0,n,.agg ⟨limL n f⟩)]⟩:Chunk).f k=.int .u64 ((f k:Nat):Int):=λf=>by
  refine Q1b ?_;exact qd0 hk
 rw[e,e];by_cases h:k=q
 .subst h;rw[if_pos Q4L,hx];rfl
 .rw[if_neg Q4L,hg k hk h]
theorem q0x(x y:Nat)(h:Hp)(hx:x<18446744073709551616)(hy:y<18446744073709551616):qae prog 187 [.int .u64 x,.int .u64 y] h (.tuple #[.int .u64 ((x*y / 18446744073709551616:Nat):Int),.int .u64 ((x*y%18446744073709551616:Nat):Int)]) [] []:=
 qan rfl rfl (call187 _) λw=>(Tryz.bits_Mul64 x y hx hy w).mono Q5n
theorem qw5(x y c:Int)(h:Hp)(hx:0<=x)(hx':x<18446744073709551616)(hy:0<=y)(hy':y<18446744073709551616)(hc0:0<=c)(hc:c<=1):qae prog 188 [.int .u64 x,.int .u64 y,.int .u64 c] h (.tuple #[.int .u64 ((x+y+c)%18446744073709551616),.int .u64 ((x+y+c) / 18446744073709551616)]) [] []:=
 qn3 rfl rfl λw=>YtggfpcfkbilkmaaGreatDoor.add64 x y c hx hx' hy hy' hc0 hc w
open Go.RowKit
theorem Tryz.info_u64:(prog.info? 31).isSome=true:=by kernel_rfl
theorem Tryz.cells_u64:prog.cellsOf 31=1:=by kernel_rfl
theorem qgl(w:World){xs:Array Value}{off:Nat}{v:Value}(hx:xs[off]?=some v):(part 31 xs off).run prog w=.ok v w:=by
 have ha:(isAgg 31).run prog w=.ok false w:=by
  unfold isAgg;rw[Sem.run_bind,run_underlying underlying31 w];rfl
 simp[part,Sem.run_bind,ha,hx]
theorem qho(d n:Nat)(f g:Nat->Nat)(w:World):∀is:List Nat,(∀i∈is,i<n)->(Op.eqItems (d+1) 31 1 (lim n f) (lim n g) is).run prog w=.ok (is.all λi=>f i==g i) w
 | [],_=>by simp[Op.eqItems]
 | i::is,h=>by
  have ih:=qho d n f g w is (λj hj=>h j (by simp[hj]));have hi:=h i Q4X;have e1:=qgl w (qdl n f i hi);have e2:=qgl w (qdl n g i hi);have e3:=run_equalIn_int (P:=prog) w d 31 .u64 .u64 (f i) (g i) underlying31;simp only[Op.eqItems,Sem.run_bind,x6,e1,e2,e3,Result.andThen_ok];by_cases hfg:f i=g i
  .simp[hfg,ih]
  .have:((f i:Nat):Int)≠(g i:Nat):=by omega
   simp[hfg,this]
theorem qep(u v:Nat)(hu:u<Bs^16)(hv:v<Bs^16)(w:World):(Op.equalIn 10000 137 (.agg (sz u)) (.agg (sz v))).run prog w=.ok (decide (u=v)) w:=by
 obtain⟨i,hi⟩:=Option.isSome_iff_exists.1 Tryz.info_u64;rw[run_equalIn_array (P:=prog) w 9999 (sz u) (sz v) underlying137 hi,Tryz.cells_u64];unfold sz;rw[qho 9998 16 _ _ w (List.range 16) (λi hi=>by simpa using hi)];congr 1;by_cases h:u=v
 .subst h;simp
 .simp only[h,decide_false];rw[<-Bool.not_eq_true,xL];intro hall;exact h (qut 16 u v hu hv λj hj=>by simpa using hall j Q5w)
theorem qpm(u:Nat)(hu:u<Bs^16)(w:World):(Op.equalIn 10000 137 (.agg (sz u)) (.agg #[.int .u64 0,.int .u64 0,.int .u64 0,.int .u64 0,.int .u64 0,.int .u64 0,.int .u64 0,.int .u64 0,.int .u64 0,.int .u64 0,.int .u64 0,.int .u64 0,.int .u64 0,.int .u64 0,.int .u64 0,.int .u64 0])).run prog w=.ok (decide (u=0)) w:=by
 rw[<-qdc];exact qep u 0 hu (qbr 16) w
theorem qrv(f:Nat->Nat):lim 16 f = #[.int .u64 (f 0:Nat),.int .u64 (f 1:Nat),.int .u64 (f 2:Nat),.int .u64 (f 3:Nat),.int .u64 (f 4:Nat),.int .u64 (f 5:Nat),.int .u64 (f 6:Nat),.int .u64 (f 7:Nat),.int .u64 (f 8:Nat),.int .u64 (f 9:Nat),.int .u64 (f 10:Nat),.int .u64 (f 11:Nat),.int .u64 (f 12:Nat),.int .u64 (f 13:Nat),.int .u64 (f 14:Nat),.int .u64 (f 15:Nat)]:=by
 unfold lim;rw[show List.range 16=[0,1,2,3,4,5,6,7,8,9,10,11,12,13,14,15] from rfl];rfl
theorem q0y(v:Nat):sz v = #[.int .u64 (dg v 0:Nat),.int .u64 (dg v 1:Nat),.int .u64 (dg v 2:Nat),.int .u64 (dg v 3:Nat),.int .u64 (dg v 4:Nat),.int .u64 (dg v 5:Nat),.int .u64 (dg v 6:Nat),.int .u64 (dg v 7:Nat),.int .u64 (dg v 8:Nat),.int .u64 (dg v 9:Nat),.int .u64 (dg v 10:Nat),.int .u64 (dg v 11:Nat),.int .u64 (dg v 12:Nat),.int .u64 (dg v 13:Nat),.int .u64 (dg v 14:Nat),.int .u64 (dg v 15:Nat)]:=qrv (dg v)
theorem q9g(neg over:Bool)(f:Nat->Nat): #[Value.bool neg,Value.bool over]++lim 16 f = #[.bool neg,.bool over,.int .u64 (f 0:Nat),.int .u64 (f 1:Nat),.int .u64 (f 2:Nat),.int .u64 (f 3:Nat),.int .u64 (f 4:Nat),.int .u64 (f 5:Nat),.int .u64 (f 6:Nat),.int .u64 (f 7:Nat),.int .u64 (f 8:Nat),.int .u64 (f 9:Nat),.int .u64 (f 10:Nat),.int .u64 (f 11:Nat),.int .u64 (f 12:Nat),.int .u64 (f 13:Nat),.int .u64 (f 14:Nat),.int .u64 (f 15:Nat)]:=by
 rw[qrv];simp
theorem q0z(neg over:Bool)(v:Nat):wi neg over v = #[.bool neg,.bool over,.int .u64 (dg v 0:Nat),.int .u64 (dg v 1:Nat),.int .u64 (dg v 2:Nat),.int .u64 (dg v 3:Nat),.int .u64 (dg v 4:Nat),.int .u64 (dg v 5:Nat),.int .u64 (dg v 6:Nat),.int .u64 (dg v 7:Nat),.int .u64 (dg v 8:Nat),.int .u64 (dg v 9:Nat),.int .u64 (dg v 10:Nat),.int .u64 (dg v 11:Nat),.int .u64 (dg v 12:Nat),.int .u64 (dg v 13:Nat),.int .u64 (dg v 14:Nat),.int .u64 (dg v 15:Nat)]:=q9g neg over (dg v)
theorem qm6(neg over:Bool):wi neg over 0 = #[.bool neg,.bool over,.int .u64 0,.int .u64 0,.int .u64 0,.int .u64 0,.int .u64 0,.int .u64 0,.int .u64 0,.int .u64 0,.int .u64 0,.int .u64 0,.int .u64 0,.int .u64 0,.int .u64 0,.int .u64 0,.int .u64 0,.int .u64 0]:=by
 unfold wi;rw[qdc];rfl
def qe1:Nat:=1023
def Top:Nat:=2^qe1
theorem qw6(n:Nat):Bs^n=2^(64*n):=by
 rw[Nat.pow_mul]
theorem qw7(a b:Nat)(h:a<b):2^a<2^b:=Nat.pow_lt_pow_right Q4P h
theorem q00(n:Nat)(h:qe1<64*n):Top<Bs^n:=by
 rw[qw6];exact qw7 _ _ h
theorem qbz:Top<Bs^16:=q00 16 Q4P
theorem qhp(v:Nat):∀n,v<Bs^n->v<Bs^ndTo v n
 | 0,h=>h
 | n+1,h=>by
  rw[ndTo];split
  .rename_i hz;refine qhp v n ?_;have s:=qcj v n;rw[hz,xW h] at s;exact(Nat.div_eq_zero_iff_lt (qbr n)).1 Q4L
  .exact h
theorem qom(v:Nat):∀n,ndTo v n=0\/dg v (ndTo v n-1)≠0
 | 0=>.inl rfl
 | n+1=>by
  rw[ndTo];split
  .exact qom v n
  .rename_i h;exact .inr h
theorem qdo:∀(f x:Nat),x<2^f->x<2^Lib.bitLenAux f x/\(x≠0->2^(Lib.bitLenAux f x-1)<=x/\0<Lib.bitLenAux f x)
 | 0,x,h=>by
  have:x=0:=by simpa using h
  subst this;exact⟨by simp[Lib.bitLenAux],λh=>absurd rfl h⟩
 | f+1,x,h=>by
  rw[Lib.bitLenAux];split
  .rename_i hz;subst hz;exact⟨by decide,λh=>absurd rfl h⟩
  .rename_i hz;obtain⟨h1,h2⟩:=qdo f (x / 2) (by rw[yw] at h;omega);refine⟨by rw[Nat.add_comm,yw];omega,λ_=>⟨?_,by omega⟩⟩;rw[show 1+Lib.bitLenAux f (x / 2)-1=Lib.bitLenAux f (x / 2) by omega];by_cases hh:x / 2=0
   .have:Lib.bitLenAux f (x / 2)=0:=by rw[hh];cases f<;>simp[Lib.bitLenAux]
    rw[this];simp;omega
   .obtain⟨h3,h4⟩:=h2 hh;obtain⟨m,hm⟩:∃m,Lib.bitLenAux f (x / 2)=m+1:=⟨_,(Nat.succ_pred_eq_of_pos h4).symm⟩;rw[hm] at h3 ⊢;rw[yw];simp at h3;omega
theorem qm7(v:Nat)(hv:v<Bs^16):v<2^bl v/\(v≠0->2^(bl v-1)<=v/\0<bl v):=by
 have hlt:=qhp v 16 hv;have htop:=qom v 16;have e0:ndTo v 16=nd v:=rfl;rw[e0] at hlt htop;rcases htop with h0|h0
 .have hb:bl v=0:=by unfold bl;rw[if_pos h0]
  rw[h0] at hlt;have:v=0:=by simpa using hlt
  subst this;exact⟨by rw[hb];decide,λh=>absurd rfl h⟩
 .by_cases hz:nd v=0
  .rw[hz] at hlt;have:v=0:=by simpa using hlt
   subst this;exact absurd (qe0 _) h0
  obtain⟨n,hn⟩:∃n,nd v=n+1:=⟨nd v-1,by omega⟩;have hb:bl v=64*n+lb (dg v n):=by unfold bl;rw[if_neg hz,hn];rfl
  rw[hn] at hlt h0;have h0':dg v n≠0:=h0;have hd:v / Bs^n=dg v n:=by
   have s:=qcj v n;rw[xW hlt] at s;omega
  obtain⟨b1,b2⟩:=qdo 64 (dg v n) (q21 v n);obtain⟨b3,b4⟩:=b2 h0';have e1:Lib.bitLenAux 64 (dg v n)=lb (dg v n):=rfl;rw[e1] at b1 b3 b4;have eB:=qw6 n;rw[hb];refine⟨?_,λ_=>⟨?_,by omega⟩⟩
  .rw[xN,<-eB,xn,<-yq (qbr n),hd];exact b1
  .rw[show 64*n+lb (dg v n)-1=64*n+(lb (dg v n)-1) by omega,xN,<-eB,xn,<-Nat.le_div_iff_mul_le (qbr n),hd];exact b3
theorem qgx(v k:Nat)(hv:v<Bs^16)(h:v<2^k):bl v<=k:=by
 obtain⟨h1,h2⟩:=qm7 v hv;by_cases hz:v=0
 .subst hz;have:bl 0=0:=by decide
  omega
 .obtain⟨h3,h4⟩:=h2 hz;have:bl v-1<k:=(Nat.pow_lt_pow_iff_right Q4P).1 (x8 h3 h);omega
theorem qux(x:Int):prog.built 137 [(0,.int .u64 x)]=some #[.int .u64 x,.int .u64 0,.int .u64 0,.int .u64 0,.int .u64 0,.int .u64 0,.int .u64 0,.int .u64 0,.int .u64 0,.int .u64 0,.int .u64 0,.int .u64 0,.int .u64 0,.int .u64 0,.int .u64 0,.int .u64 0]:=by kernel_rfl
theorem qgy(v:Nat)(h:v<18446744073709551616):prog.built 137 [(0,.int .u64 v)]=some (sz v):=by
 rw[quw v h];exact qux _
theorem qhq:prog.built 137 []=some (sz 0):=by
 rw[qdc];kernel_rfl
theorem qfq(neg:Bool)(v:Nat):prog.built 139 [(0,.bool neg),(2,.agg (sz v))]=some (wi neg false v):=by
 rw[q0y,q0z];kernel_rfl
def zi(z:Int):Array Value:=wi (decide (z<0)) false z.natAbs
@[simp] theorem zi_size(z:Int):(zi z).size=18:=wi_size _ _ _
theorem qyo(v:Nat)(h:0<v/\v<=9223372036854775808)(w:World):xa 111 #[xc (-(v:Int))] w (.agg (wi true false v)):=by
 have hB:Below w.heap.size w w:=Below.refl _ _;have hr:=IsRow.new w (wi false false 0) 139;rw[qm6] at hr;obtain⟨h0,h1⟩:=h;have hwr:IntKind.u64.wrap (-IntKind.u64.wrap (-(v:Int)))=v:=by
  show((-((-(v:Int))%18446744073709551616))%18446744073709551616:Int)=v;omega
 have hb1:prog.built 137 [(0,.int .u64 (IntKind.u64.wrap (-IntKind.u64.wrap (-(v:Int)))))]=some (sz v):=by rw[hwr];exact qgy v Q4L
 clear hwr;have hn : -(v:Int)<0:=by omega
 have hb2:=qfq true v
 go_enter func111,Tryz.ntmps111
 go_wp2_with (first|(refine qdg (ty:=137) rfl ?_;refine qct ?_ 137 0 _ rfl (.int .u64 (IntKind.u64.wrap (-IntKind.u64.wrap (-(v:Int))))) rfl (sz v) (hb1) ?_;(focus rfl))|(refine qdg (ty:=139) rfl ?_;refine qfm ?_ 139 0 2 _ _ rfl (.bool true) (.agg (sz v)) rfl rfl (wi true false v) (hb2) ?_;(focus rfl))|(refine qbc (ty:=139) rfl ?_;refine wpList_store_row ?_ 139 _ _ rfl (w.heap.size) (wi true false v) rfl rfl _ (_) (hr) Q58 Q4X (qhn _ _ _) ?_;(focus rfl))|fail)
 exact bodyPost_ret Q4o rfl ⟨rfl,below_setRow (hB.alloc (nlr _) _) (nlr _) _⟩
theorem qrw(v:Nat)(h:v<9223372036854775808)(w:World):xa 111 #[xc ((v:Int))] w (.agg (wi false false v)):=by
 have hB:Below w.heap.size w w:=Below.refl _ _;have hr:=IsRow.new w (wi false false 0) 139;rw[qm6] at hr;have hwr:IntKind.u64.wrap (v:Int)=v:=by
  show((v:Int)%18446744073709551616:Int)=v;omega
 have hb1:prog.built 137 [(0,.int .u64 (v:Int))]=some (sz v):=qgy v Q4L;have hn:¬ (v:Int)<0:=by omega
 have hb2:=qfq false v
 go_enter func111,Tryz.ntmps111
 go_wp2_with (first|(refine qdg (ty:=137) rfl ?_;refine qct ?_ 137 0 _ rfl (.int .u64 (v:Int)) rfl (sz v) (hb1) ?_;(focus rfl))|(refine qdg (ty:=139) rfl ?_;refine qfm ?_ 139 0 2 _ _ rfl (.bool false) (.agg (sz v)) rfl rfl (wi false false v) (hb2) ?_;(focus rfl))|(refine qbc (ty:=139) rfl ?_;refine wpList_store_row ?_ 139 _ _ rfl (w.heap.size) (wi false false v) rfl rfl _ (_) (hr) Q58 Q4X (qhn _ _ _) ?_;(focus rfl))|fail)
 exact bodyPost_ret Q4o rfl ⟨rfl,below_setRow (hB.alloc (nlr _) _) (nlr _) _⟩
theorem qyp(n:Int)(h0 : -9223372036854775808<=n)(h1:n<9223372036854775808)(w:World):xa 111 #[xc n] w (.agg (zi n)):=by
 by_cases hn:n<0
 .have:=qyo n.natAbs Q4L w;rw[show -(n.natAbs:Int)=n by omega] at this;unfold zi;rw[xg hn];exact this
 .have:=qrw n.natAbs Q4L w;rw[show(n.natAbs:Int)=n by omega] at this;unfold zi;rw[xl hn];exact this
theorem qon(neg:Bool)(v:Nat)(hv:v<Top)(w:World):xa 189 #[.bool neg,.agg (sz v)] w (.agg (wi (neg&&decide (v≠0)) false v)):=by
 have hv16:v<Bs^16:=xM hv qbz;have hbl:bl v<=1023:=qgx v qe1 hv16 hv;have hB:Below w.heap.size w w:=Below.refl _ _;have hr:=(IsRow.new w (sz v) 137).alloc (.cells (wi false false 0) 139);have hr2:=IsRow.new (w.alloc (.cells (sz v) 137)) (wi false false 0) 139;have hdg:=Digs.of_sz hr;rw[qm6] at hdg hr hr2;have HD:=Lib.hid hdg;clear hdg;have hB2:Below w.heap.size w ((w.alloc (.cells (sz v) 137)).alloc (.cells #[.bool false,.bool false,.int .u64 0,.int .u64 0,.int .u64 0,.int .u64 0,.int .u64 0,.int .u64 0,.int .u64 0,.int .u64 0,.int .u64 0,.int .u64 0,.int .u64 0,.int .u64 0,.int .u64 0,.int .u64 0,.int .u64 0,.int .u64 0] 139)):=by
  refine Below.alloc (Below.alloc hB ?_ _) ?_ _
  .exact nlr _
  .simp
 go_enter func189,Tryz.ntmps189
 go_wp2_with fail
 refine(qgv w.heap.size 0 v _ HD.out).mono ?_;rintro e w' ⟨rfl,rfl⟩;clear HD;cases neg
 .go_wp2_with fail
  rw[show(w.alloc (.cells (sz v) 137)).heap.size=w.heap.size+1 by simp] at hr2;generalize hW:((w.alloc (.cells (sz v) 137)).alloc (.cells #[.bool false,.bool false,.int .u64 0,.int .u64 0,.int .u64 0,.int .u64 0,.int .u64 0,.int .u64 0,.int .u64 0,.int .u64 0,.int .u64 0,.int .u64 0,.int .u64 0,.int .u64 0,.int .u64 0,.int .u64 0,.int .u64 0,.int .u64 0] 139))=W at hr hr2 hB2 ⊢;clear hW;have heq:=qep v 0 hv16 (qbr 16) W.drew;clear heq;refine wp_region_still_tail 8 Q4Q Q4Q ?_;simp only[List.take_succ_cons,List.take_zero,List.drop_succ_cons,List.drop_zero]
  repeat (first|(refine qm4 (ty:=137) rfl ?_;refine qcl ?_ 137 _ rfl (w.heap.size) rfl _ (sz v) _ _ (hr.drew) underlying137 rfl Q4V ?_;(focus (first|rfl|(go_simp;done))))|(refine qeo (ty:=137) rfl ?_;refine qdm ?_ 137 rfl (sz 0) (qhq) ?_;(focus (first|rfl|(go_simp;done))))|(refine qeo (ty:=139) rfl ?_;refine qdn ?_ 139 0 2 _ _ rfl (.bool false) (.agg (sz v)) rfl rfl (wi false false v) (qfq _ _) ?_;(focus (first|rfl|(go_simp;done))))|still_step)
  refine wpStill_nil ?_;change wpList _ _ _ _ _ W.drew
  go_wp2_with (refine qbc (ty:=139) rfl ?_;refine wpList_store_row ?_ 139 _ _ rfl (w.heap.size+1) (wi false false v) rfl rfl _ (_) (hr2.drew) Q58 Q4X (qhn _ _ _) ?_;(focus rfl))
  exact bodyPost_ret Q48 rfl ⟨by rw[show(false&&decide (v≠0))=false by simp],below_setRow hB2.drew Q4L _⟩
 .by_cases hz:v=0
  .have HZ:=Lib.hid hz;clear hz
   go_wp2_with fail
   rw[show(w.alloc (.cells (sz v) 137)).heap.size=w.heap.size+1 by simp] at hr2;generalize hW:((w.alloc (.cells (sz v) 137)).alloc (.cells #[.bool false,.bool false,.int .u64 0,.int .u64 0,.int .u64 0,.int .u64 0,.int .u64 0,.int .u64 0,.int .u64 0,.int .u64 0,.int .u64 0,.int .u64 0,.int .u64 0,.int .u64 0,.int .u64 0,.int .u64 0,.int .u64 0,.int .u64 0] 139))=W at hr hr2 hB2 ⊢;clear hW;have heq:=qep v 0 hv16 (qbr 16) W.drew;rw[xg HZ.out] at heq;refine wp_region_still_tail 8 Q4Q Q4Q ?_;simp only[List.take_succ_cons,List.take_zero,List.drop_succ_cons,List.drop_zero]
   repeat (first|(refine qm4 (ty:=137) rfl ?_;refine qcl ?_ 137 _ rfl (w.heap.size) rfl _ (sz v) _ _ (hr.drew) underlying137 rfl Q4V ?_;(focus (first|rfl|(go_simp;done))))|(refine qeo (ty:=137) rfl ?_;refine qdm ?_ 137 rfl (sz 0) (qhq) ?_;(focus (first|rfl|(go_simp;done))))|(refine qeo (ty:=139) rfl ?_;refine qdn ?_ 139 0 2 _ _ rfl (.bool false) (.agg (sz v)) rfl rfl (wi false false v) (qfq _ _) ?_;(focus (first|rfl|(go_simp;done))))|still_step)
   refine wpStill_nil ?_;change wpList _ _ _ _ _ W.drew
   go_wp2_with (refine qbc (ty:=139) rfl ?_;refine wpList_store_row ?_ 139 _ _ rfl (w.heap.size+1) (wi false false v) rfl rfl _ (_) (hr2.drew) Q58 Q4X (qhn _ _ _) ?_;(focus rfl))
   exact bodyPost_ret Q48 rfl ⟨by rw[show(true&&decide (v≠0))=false by simp[HZ.out]],below_setRow hB2.drew Q4L _⟩
  .have HZ:=Lib.hid hz;clear hz
   go_wp2_with fail
   rw[show(w.alloc (.cells (sz v) 137)).heap.size=w.heap.size+1 by simp] at hr2;generalize hW:((w.alloc (.cells (sz v) 137)).alloc (.cells #[.bool false,.bool false,.int .u64 0,.int .u64 0,.int .u64 0,.int .u64 0,.int .u64 0,.int .u64 0,.int .u64 0,.int .u64 0,.int .u64 0,.int .u64 0,.int .u64 0,.int .u64 0,.int .u64 0,.int .u64 0,.int .u64 0,.int .u64 0] 139))=W at hr hr2 hB2 ⊢;clear hW;have heq:=qep v 0 hv16 (qbr 16) W.drew;rw[xl HZ.out] at heq;refine wp_region_still_tail 8 Q4Q Q4Q ?_;simp only[List.take_succ_cons,List.take_zero,List.drop_succ_cons,List.drop_zero]
   repeat (first|(refine qm4 (ty:=137) rfl ?_;refine qcl ?_ 137 _ rfl (w.heap.size) rfl _ (sz v) _ _ (hr.drew) underlying137 rfl Q4V ?_;(focus (first|rfl|(go_simp;done))))|(refine qeo (ty:=137) rfl ?_;refine qdm ?_ 137 rfl (sz 0) (qhq) ?_;(focus (first|rfl|(go_simp;done))))|(refine qeo (ty:=139) rfl ?_;refine qdn ?_ 139 0 2 _ _ rfl (.bool true) (.agg (sz v)) rfl rfl (wi true false v) (qfq _ _) ?_;(focus (first|rfl|(go_simp;done))))|still_step)
   refine wpStill_nil ?_;change wpList _ _ _ _ _ W.drew
   go_wp2_with (refine qbc (ty:=139) rfl ?_;refine wpList_store_row ?_ 139 _ _ rfl (w.heap.size+1) (wi true false v) rfl rfl _ (_) (hr2.drew) Q58 Q4X (qhn _ _ _) ?_;(focus rfl))
   exact bodyPost_ret Q48 rfl ⟨by rw[show(true&&decide (v≠0))=true by simp[HZ.out]],below_setRow hB2.drew Q4L _⟩
theorem qyq(v p q M:Nat)(hp:0<p)(hq:0<q)(hM:0<M):v*p / (M*(p*q))=v / (M*(p*q))*p+v / M%(p*q) / q:=by
 have h1:v / (M*(p*q))=v / M / (p*q):=by rw[yx]
 have h2:=xK v M;have h3:=xK (v / M) (p*q);have h4:v*p / (M*(p*q))=v / M / q:=by
  rw[show M*(p*q)=M*q*p by rw[xn p q,xV],Nat.mul_div_mul_right _ _ hp,yx]
 rw[h4,h1];generalize v / M=x at *;have h5:x=x / (p*q)*(p*q)+x%(p*q):=by rw[xn];exact h3.symm
 conv=>lhs;rw[h5]
 rw[show x / (p*q)*(p*q)=q*(x / (p*q)*p) by rw[<-xV,xn q,xV]];rw[yS hq]
theorem qfr(k:Nat)(hk:k<64):Bs=2^k*2^(64-k):=by rw[<-xN,show k+(64-k)=64 by omega]
theorem quy(v k:Nat):dg (v*2^k) 0=dg v 0*2^k%18446744073709551616:=by
 unfold dg;rw[Nat.pow_zero,Nat.div_one,Nat.div_one];show _=v%Bs*2^k%Bs;rw[Nat.mod_mul_mod]
theorem quz(v k n:Nat)(hk:k<64)(hn:0<n):dg (v*2^k) n=dg v n*2^k%18446744073709551616+dg v (n-1) / 2^(64-k):=by
 obtain⟨m,rfl⟩:∃m,n=m+1:=⟨n-1,by omega⟩;have hM:=qbr m;have hp:0<2^k:=yd Q4P;have hq:0<2^(64-k):=yd Q4P;have g:=qyq v (2^k) (2^(64-k)) (Bs^m) hp hq hM;have e:=qfr k hk;have hd0:=xA (v / Bs^m) qeg;rw[show m+1-1=m from rfl];unfold dg;show v*2^k / Bs^(m+1)%Bs=v / Bs^(m+1)%Bs*2^k%Bs+v / Bs^m%Bs / 2^(64-k);rw[yw];generalize 2^k=p at *;generalize 2^(64-k)=q at *;rw[<-e] at g;rw[g];generalize v / (Bs^m*Bs)=x at *;generalize v / Bs^m%Bs=d at *;generalize Bs=B at *;subst e;have h1:d / q<p:=by rw[yq hq];exact hd0
 have h2:x%(p*q)*p%(p*q)=x%q*p:=by
  rw[Nat.mod_mul_mod,xn x p,Nat.mul_mod_mul_left,xn]
 have h3:=xK x q;rw[h2];have h4:x*p+d / q=p*q*(x / q)+(x%q*p+d / q):=by
  have:x*p=p*q*(x / q)+x%q*p:=by
   conv=>lhs;rw[<-h3]
   rw[xB,xn (q*(x / q)) p,<-xV]
  omega
 rw[h4,yT,xX];have h5:=xA x hq;have h6:(x%q+1)*p<=q*p:=yp _ h5;rw[xB] at h6;rw[xn p q];omega
theorem qga(x k:Nat):IntKind.u64.wrap ((x:Int)*2^k)=((x*2^k%18446744073709551616:Nat):Int):=by
 rw[xm];generalize h:x*2^k=y;have:(x:Int)*2^k=(y:Nat):=by rw[<-h];exact_mod_cast rfl
 rw[this];omega
theorem qcc(x k:Nat):(x:Int) / 2^k=((x / 2^k:Nat):Int):=by exact_mod_cast rfl
theorem qrx(a b:Nat)(ha:a<18446744073709551616)(hb:b<18446744073709551616):bits .or .u64 (a:Int) (b:Int)=((a ||| b:Nat):Int):=
 (bits_nat .u64 64 Q4P (λn h0 h1=>by rw[xm];omega) a b ha hb).2
theorem q7s(x y k:Nat)(hk0:0<k)(hk:k<64)(hy:y<18446744073709551616):
  bits .or .u64 (IntKind.u64.wrap ((x:Int)*2^k)) ((y:Int) / 2^(64-k))=((x*2^k%18446744073709551616+y / 2^(64-k):Nat):Int):=by
 have h1:=xA (x*2^k) qeg
 have h2:y / 2^(64-k)<2^k:=by
  rw[yq (yd Q4P),<-qfr k hk];exact hy
 have h3:2^k<=2^63:=yi Q4P Q4L
 rw[qga,qcc,qrx _ _ h1 Q4L]
 have h4:x*2^k%18446744073709551616=2^k*(x%2^(64-k)):=by
  show x*2^k%Bs=_;rw[qfr k hk,xn x,Nat.mul_mod_mul_left]
 rw[h4,Nat.two_pow_add_eq_or_of_lt h2]
theorem qyr(x y k:Nat)(hk0:0<k)(hk:k<64)(hx:x<18446744073709551616):
  bits .or .u64 ((x:Int) / 2^k) (IntKind.u64.wrap ((y:Int)*2^(64-k)))=((x / 2^k+y*2^(64-k)%18446744073709551616:Nat):Int):=by
 have h1:=xA (y*2^(64-k)) qeg
 have e:Bs=2^(64-k)*2^k:=by rw[xn];exact qfr k hk
 have h2:x / 2^k<2^(64-k):=by
  rw[yq (yd Q4P),<-e];exact hx
 have h3:2^(64-k)<=2^63:=yi Q4P Q4L
 rw[qga,qcc,qrx _ _ Q4L h1]
 have h4:y*2^(64-k)%18446744073709551616=2^(64-k)*(y%2^k):=by
  show y*2^(64-k)%Bs=_;rw[e,xn y,Nat.mul_mod_mul_left]
 rw[h4,Nat.or_comm,<-Nat.two_pow_add_eq_or_of_lt h2,Nat.add_comm]
open Go.RowKit
theorem qoo(m:Nat)(f g:Nat->Nat)(i:Nat)(u:Value)(x:Int)(hi:i<m)(hv:x=((g i:Nat):Int))(h:∀j,j<m->j≠i->f j=g j):((lim m f).setIfInBounds i u).setIfInBounds i (.int .u64 x)=lim m g:=by
 rw[<-qhl m f g i x hi hv h];apply y4;intro j;simp only[yY,Array.size_setIfInBounds];split<;>simp_all
def upTo(v k n:Nat):Nat->Nat:=λj=>if n<=j then dg (v*2^k) j else 0
theorem qlv(v k n j:Nat)(h:j≠n):upTo v k (n+1) j=upTo v k n j:=by
 unfold upTo;by_cases hj:n<=j<;>simp[hj,show n+1<=j↔n<j from Iff.rfl]<;>omega
theorem qry(v k n:Nat):upTo v k n n=dg (v*2^k) n:=by unfold upTo;rw[if_pos (nlr _)]
theorem q01(g o v k:Nat)(hk:k<64)(w:World)(hd:Digs w g o v):
  xa 295 #[.pointer (some ⟨g,o,none⟩),xc k] w (.agg (sz (v*2^k))):=by
 have HD:=Lib.hid hd
 clear hd
 have q0:(k:Int) / 64=0:=by omega
 have q1:(k:Int).tdiv 64=0:=Int.tdiv_eq_zero_of_lt Q4L Q4L
 have q2:(k:Int).tmod 64=k:=Int.tmod_eq_of_lt Q4L Q4L
 have q3:(k:Int)%64=k:=by omega
 go_enter func295,Tryz.ntmps295
 go_wp2
 go_loopw [6] (λi wr=>∃n:Nat,n<=16/\i=xc (n-1)/\IsRow wr (w.heap.size+1) 137 (lim 16 (upTo v k n))/\IsRow wr w.heap.size 137 (sz 0)/\Below w.heap.size w wr) (λi _=>(intOf i+1).toNat)
 case atStart=>
  refine⟨16,by omega,rfl,?_,?_,by repeat (first|with_reducible exact Below.refl _ _|with_reducible refine Below.alloc ?_ Q4S _)⟩
  .rw[qce 16 (upTo v k 16) (dg 0) (λj hj=>by rw[qe0];unfold upTo;rw[if_neg Q4L])];exact Q0V
  .exact Q2D
 case round=>
  obtain⟨n,hn,rfl,hrow,hres,hbel⟩:=hrel
  match n,hn with
  | 0,hn=>
   rw[qce 16 (upTo v k 0) (dg (v*2^k)) (λj hj=>by unfold upTo;rw[if_pos Q4L])] at hrow;have hrow':IsRow wr (w.heap.size+1) 137 (sz (v*2^k)):=hrow;clear hrow
   go_wp2_with (first|(refine qcb (ty:=137) rfl ?_;refine wpList_load_row ?_ 137 _ rfl (w.heap.size+1) rfl _ (sz (v*2^k)) _ _ (hrow') underlying137 rfl Q4V ?_;(focus rfl))|(refine qbc (ty:=137) rfl ?_;refine wpList_store_row ?_ 137 _ _ rfl (w.heap.size) (sz (v*2^k)) rfl rfl _ (_) (hres) Q4V Q4X (qby _) ?_;(focus rfl))|fail)
   exact bodyPost_ret (results_cell_row Tryz.results295 _ _ w.heap.size _ _ _ _ rfl (hres.row _) underlying137 rfl Q4V) rfl ⟨rfl,below_setRow hbel (nlr _) _⟩
  | n+1,hn=>
   have e1:((n+1:Nat):Int)-1=n:=by omega
   rw[e1];have c1:wr.cell? ⟨g,o+n,none⟩=some (.int .u64 ((dg v n:Nat):Int)):=(hbel.cell (p:=⟨g,o+n,none⟩) HD.out.lt).trans (HD.out n Q4L);have c3:=hrow.cell (qdl 16 (upTo v k (n+1)) n Q4L);have f3:=hrow.frozen n;have hz:=hbel.size;have hrow1:=hrow.set n (.int .u64 (IntKind.u64.wrap (((dg v n:Nat):Int)*2^k)));have hres1:IsRow (wr.setCell ⟨w.heap.size+1,n,none⟩ (.int .u64 (IntKind.u64.wrap (((dg v n:Nat):Int)*2^k)))) w.heap.size 137 (sz 0):=hres.setOther _ _ Q4X;have hbel1:Below w.heap.size w (wr.setCell ⟨w.heap.size+1,n,none⟩ (.int .u64 (IntKind.u64.wrap (((dg v n:Nat):Int)*2^k)))):=hbel.setCell Q4X _;by_cases hk0:0<k/\0<n
   .obtain⟨hk0,hn0⟩:=hk0
    go_wp2_with fail
    clear c1 c3 f3 hrow hres hbel;generalize wr.setCell ⟨w.heap.size+1,n,none⟩ (.int .u64 (IntKind.u64.wrap (((dg v n:Nat):Int)*2^k)))=W at *;have c2:W.cell? ⟨g,o+(n-1),none⟩=some (.int .u64 ((dg v (n-1):Nat):Int)):=(hbel1.cell (p:=⟨g,o+(n-1),none⟩) HD.out.lt).trans (HD.out (n-1) Q4L);have c3:W.cell? ⟨w.heap.size+1,n,none⟩=some (.int .u64 (IntKind.u64.wrap (((dg v n:Nat):Int)*2^k))):=hrow1.cell Q5Z;have f3:=hrow1.frozen n
    go_region
    go_wp2_with fail
    go_roundw
    case rel=>
     refine⟨n,by omega,by go_num,?_,hres1.setOther _ _ Q4X,(hbel1.setCell Q4X _).drew⟩
     have h2:=hrow1.set n (.int .u64 (bits .or .u64 (IntKind.u64.wrap (((dg v n:Nat):Int)*2^k)) (((dg v (n-1):Nat):Int) / 2^(64-k))))
     rw[qoo 16 (upTo v k (n+1)) (upTo v k n) n _ _ Q4L (by rw[q7s _ _ _ hk0 hk (q21 _ _),qry,quz v k n hk hn0]) (λj _ hj=>qlv v k n j hj)] at h2
     exact h2
    case measure=>simp[intOf]
   .have hval:IntKind.u64.wrap (((dg v n:Nat):Int)*2^k)=((upTo v k n n:Nat):Int):=by
     rw[qga,qry];by_cases hn0:n=0
     .subst hn0;rw[quy]
     .obtain rfl:k=0:=by omega
      rw[Nat.pow_zero,x6,x6,xX (q21 v n)]
    rw[qhl 16 (upTo v k (n+1)) (upTo v k n) n _ Q4L hval (λj _ hj=>qlv v k n j hj)] at hrow1;have HV:=Lib.hid hval;clear hval;by_cases hk1:0<k
    .have hn0:¬ 0<n:=λh=>hk0 ⟨hk1,h⟩
     have hn1:decide ((n:Int) > 0)=false:=xl Q4L;clear hk0;exact Q1R
    .clear hk0;have hk2:decide ((k:Int) > 0)=false:=xl Q4L;exact Q1R
def qco(v k n:Nat):Nat->Nat:=λj=>if j<n then dg (v / 2^k) j else 0
theorem qhr(v k n j:Nat)(h:j≠n):qco v k n j=qco v k (n+1) j:=by
 unfold qco;by_cases hj:j<n<;>simp[hj]<;>omega
theorem qlw(v k n:Nat):qco v k (n+1) n=dg (v / 2^k) n:=by unfold qco;rw[if_pos Q4L]
theorem qu0(g o v k:Nat)(hk:k<64)(hv:v<Bs^16)(w:World)(hd:Digs w g o v):
  Calls prog 297 #[.pointer (some ⟨g,o,none⟩),xc k] w λe w'=>(∃b,e=.returned (.tuple #[.agg (sz (v / 2^k)),.bool b]))/\Below w.heap.size w w':=by
 have HD:=Lib.hid hd
 clear hd
 have q0:(k:Int) / 64=0:=by omega
 have q1:(k:Int).tdiv 64=0:=Int.tdiv_eq_zero_of_lt Q4L Q4L
 have q2:(k:Int).tmod 64=k:=Int.tmod_eq_of_lt Q4L Q4L
 have q3:(k:Int)%64=k:=by omega
 go_enter func297,Tryz.ntmps297
 go_wp2
 have hrow0:IsRow ((w.alloc (.cells #[.int .u64 0,.int .u64 0,.int .u64 0,.int .u64 0,.int .u64 0,.int .u64 0,.int .u64 0,.int .u64 0,.int .u64 0,.int .u64 0,.int .u64 0,.int .u64 0,.int .u64 0,.int .u64 0,.int .u64 0,.int .u64 0] 137)).alloc (.cells #[.int .u64 0,.int .u64 0,.int .u64 0,.int .u64 0,.int .u64 0,.int .u64 0,.int .u64 0,.int .u64 0,.int .u64 0,.int .u64 0,.int .u64 0,.int .u64 0,.int .u64 0,.int .u64 0,.int .u64 0,.int .u64 0] 137)) (w.heap.size+1) 137 (sz 0):=Q0V
 have hres0:IsRow ((w.alloc (.cells #[.int .u64 0,.int .u64 0,.int .u64 0,.int .u64 0,.int .u64 0,.int .u64 0,.int .u64 0,.int .u64 0,.int .u64 0,.int .u64 0,.int .u64 0,.int .u64 0,.int .u64 0,.int .u64 0,.int .u64 0,.int .u64 0] 137)).alloc (.cells #[.int .u64 0,.int .u64 0,.int .u64 0,.int .u64 0,.int .u64 0,.int .u64 0,.int .u64 0,.int .u64 0,.int .u64 0,.int .u64 0,.int .u64 0,.int .u64 0,.int .u64 0,.int .u64 0,.int .u64 0,.int .u64 0] 137)) w.heap.size 137 (sz 0):=Q2D
 have hbel0:Below w.heap.size w ((w.alloc (.cells #[.int .u64 0,.int .u64 0,.int .u64 0,.int .u64 0,.int .u64 0,.int .u64 0,.int .u64 0,.int .u64 0,.int .u64 0,.int .u64 0,.int .u64 0,.int .u64 0,.int .u64 0,.int .u64 0,.int .u64 0,.int .u64 0] 137)).alloc (.cells #[.int .u64 0,.int .u64 0,.int .u64 0,.int .u64 0,.int .u64 0,.int .u64 0,.int .u64 0,.int .u64 0,.int .u64 0,.int .u64 0,.int .u64 0,.int .u64 0,.int .u64 0,.int .u64 0,.int .u64 0,.int .u64 0] 137)):=by
  repeat (first|with_reducible exact Below.refl _ _|with_reducible refine Below.alloc ?_ Q4S _)
 generalize ((w.alloc (.cells #[.int .u64 0,.int .u64 0,.int .u64 0,.int .u64 0,.int .u64 0,.int .u64 0,.int .u64 0,.int .u64 0,.int .u64 0,.int .u64 0,.int .u64 0,.int .u64 0,.int .u64 0,.int .u64 0,.int .u64 0,.int .u64 0] 137)).alloc (.cells #[.int .u64 0,.int .u64 0,.int .u64 0,.int .u64 0,.int .u64 0,.int .u64 0,.int .u64 0,.int .u64 0,.int .u64 0,.int .u64 0,.int .u64 0,.int .u64 0,.int .u64 0,.int .u64 0,.int .u64 0,.int .u64 0] 137))=W0 at hrow0 hres0 hbel0 ⊢
 go_loopw [7,13] (λr i wr=>wr=W0/\r=.bool false/\i=xc 0) (λ_ _ _=>0)
 case atStart=>exact⟨rfl,rfl,rfl⟩
 case round=>
  obtain⟨e0,rfl,rfl⟩:=hrel
  have e1:=e0.symm
  clear e0
  subst e1
  go_wp2_with fail
  go_loopw [9] (λi wr=>∃n:Nat,n<=16/\i=xc n/\IsRow wr (w.heap.size+1) 137 (lim 16 (qco v k n))/\IsRow wr w.heap.size 137 (sz 0)/\Below w.heap.size w wr) (λi _=>16-(intOf i).toNat)
  case atStart=>
   refine⟨0,by omega,rfl,?_,hres0,hbel0⟩
   rw[qce 16 (qco v k 0) (dg 0) (λj hj=>by rw[qe0];unfold qco;rw[if_neg Q4L])]
   exact hrow0
  case round=>
   obtain⟨n,hn,rfl,hrow,hres,hbel⟩:=hrel
   by_cases hlt:n<16
   .have c1:wr.cell? ⟨g,o+n,none⟩=some (.int .u64 ((dg v n:Nat):Int)):=(hbel.cell (p:=⟨g,o+n,none⟩) HD.out.lt).trans (HD.out n Q4L);have c3:=hrow.cell (qdl 16 (qco v k n) n hlt);have f3:=hrow.frozen n;have hz:=hbel.size;have hrow1:=hrow.set n (.int .u64 (((dg v n:Nat):Int) / 2^k));have hres1:IsRow (wr.setCell ⟨w.heap.size+1,n,none⟩ (.int .u64 (((dg v n:Nat):Int) / 2^k))) w.heap.size 137 (sz 0):=hres.setOther _ _ Q4X;have hbel1:Below w.heap.size w (wr.setCell ⟨w.heap.size+1,n,none⟩ (.int .u64 (((dg v n:Nat):Int) / 2^k))):=hbel.setCell Q4X _;by_cases hk0:0<k/\n+1<16
    .obtain⟨hk0,hn0⟩:=hk0
     go_wp2_with fail
     clear c1 c3 f3 hrow hres hbel;generalize wr.setCell ⟨w.heap.size+1,n,none⟩ (.int .u64 (((dg v n:Nat):Int) / 2^k))=W at *;have c2:W.cell? ⟨g,o+(n+1),none⟩=some (.int .u64 ((dg v (n+1):Nat):Int)):=(hbel1.cell (p:=⟨g,o+(n+1),none⟩) HD.out.lt).trans (HD.out (n+1) Q4L);have c3:W.cell? ⟨w.heap.size+1,n,none⟩=some (.int .u64 (((dg v n:Nat):Int) / 2^k)):=hrow1.cell Q5Z;have f3:=hrow1.frozen n
     go_region
     go_wp2_with fail
     go_roundw
     case rel=>
      refine⟨n+1,by omega,by go_num,?_,hres1.setOther _ _ Q4X,(hbel1.setCell Q4X _).drew⟩
      have h2:=hrow1.set n (.int .u64 (bits .or .u64 (((dg v n:Nat):Int) / 2^k) (IntKind.u64.wrap (((dg v (n+1):Nat):Int)*2^(64-k)))))
      rw[qoo 16 (qco v k n) (qco v k (n+1)) n _ _ Q4L (by rw[qyr _ _ _ hk0 hk (q21 _ _),qlw,qoj v n k hk]) (λj _ hj=>qhr v k n j hj)] at h2
      exact h2
     case measure=>simp[intOf];omega
    .have hval:((dg v n:Nat):Int) / 2^k=((qco v k (n+1) n:Nat):Int):=by
      rw[qcc,qlw,qoj v n k hk];by_cases hn0:n+1<16
      .obtain rfl:k=0:=by omega
       rw[show dg v (n+1)*2^(64-0)%18446744073709551616=0 from Nat.mul_mod_left _ _,yb]
      .obtain rfl:n=15:=by omega
       rw[qip v 16 hv,Nat.zero_mul,Nat.zero_mod,yb]
     rw[qhl 16 (qco v k n) (qco v k (n+1)) n _ Q4L hval (λj _ hj=>qhr v k n j hj)] at hrow1;have HV:=Lib.hid hval;clear hval;by_cases hk1:0<k
     .have hn0:¬ n+1<16:=λh=>hk0 ⟨hk1,h⟩
      have hn1:decide ((n:Int)+1<16)=false:=xl Q4L;clear hk0;exact Q1L
     .clear hk0;have hk2:decide ((k:Int) > 0)=false:=xl Q4L;exact Q1L
   .obtain rfl:n=16:=by omega
    have c1:wr.cell? ⟨g,o,none⟩=some (.int .u64 ((dg v 0:Nat):Int)):=(hbel.cell (p:=⟨g,o,none⟩) HD.out.lt).trans (HD.out 0 Q4L);rw[qce 16 (qco v k 16) (dg (v / 2^k)) (λj hj=>by unfold qco;rw[if_pos hj])] at hrow;have hrow':IsRow wr (w.heap.size+1) 137 (sz (v / 2^k)):=hrow;clear hrow;by_cases hk1:0<k
    .exact Q0p
    .have hk2:decide ((k:Int) > 0)=false:=xl Q4L;exact Q0p
open Go.RowKit
theorem qop(lo y:Nat)(hlo:lo<18446744073709551616)(hy0:0<y)(hy:y<18446744073709551616)(w:World):
  xa 293 #[.int .u64 0,.int .u64 lo,.int .u64 y] w (.tuple #[.int .u64 (lo / y:Nat),.int .u64 (lo%y:Nat)]):=by
 have hB:Below w.heap.size w w:=Below.refl _ _
 have h1:((y:Int)==0)=false:=by simp;omega
 have h2:¬ (y:Int)<=0:=by omega
 have h3:(lo:Int).tdiv y=((lo / y:Nat):Int):=rfl
 have h4:(lo:Int).tmod y=((lo%y:Nat):Int):=rfl
 have h5:lo / y<18446744073709551616:=x8 (yI _ _) hlo
 have h6:lo%y<18446744073709551616:=x8 (Nat.mod_le _ _) hlo
 go_enter func293,Tryz.ntmps293
 go_wp2_with fail
 go_region
 go_wp2_with fail
 have e1:IntKind.u64.wrap ((lo:Int) / (y:Int))=((lo / y:Nat):Int):=by
  rw[show(lo:Int) / (y:Int)=((lo / y:Nat):Int) from rfl,xm];generalize lo / y=q at *;omega
 have e2:(lo:Int)%(y:Int)=((lo%y:Nat):Int):=rfl
 exact bodyPost_ret (v:=.tuple #[.int .u64 (lo / y:Nat),.int .u64 (lo%y:Nat)]) (by simp[results,Tryz.results293,e1]) rfl ⟨rfl,hB.drew⟩
def q4l(a b n:Nat):Nat->Nat:=λj=>if n<=j then dg (a / b) j else 0
theorem qrz(a b n j:Nat)(h:j≠n):q4l a b (n+1) j=q4l a b n j:=by
 unfold q4l;by_cases hj:n<=j<;>simp[hj,show n+1<=j↔n<j from Iff.rfl]<;>omega
theorem qys(a b n:Nat):q4l a b n n=dg (a / b) n:=by unfold q4l;rw[if_pos (nlr _)]
def rm(a b i:Nat):Nat:=a / Bs^i%b
theorem qr0(a b:Nat):cm a b<0↔a<b:=by unfold cm;split<;>(try split)<;>omega
theorem qw8(b:Nat)(h0:0<b)(h:b<18446744073709551616):nd b=1:=by
 have key:∀n,ndTo b (n+1)=1:=by
  intro n
  induction n with
  | zero=>
   rw[ndTo];rw[if_neg (by rw[qcs b h];simp;omega)]
  | succ n ih=>rw[ndTo,if_pos (by rw[qcs b h];simp),ih]
 exact key 15
theorem qiq(a b:Nat)(ha:a<Bs^16)(hb0:0<b)(hb:b<18446744073709551616)
  (H:∀(i:Nat)(w:World),i<nd a->Calls prog 293 #[.int .u64 (rm a b (i+1):Nat),.int .u64 (dg a i:Nat),.int .u64 (b:Nat)] w λe w'=>
   e=.returned (.tuple #[.int .u64 (dg (a / b) i:Nat),.int .u64 (rm a b i:Nat)])/\Below w.heap.size w w') (w:World) :
  xa 269 #[.agg (sz a),.agg (sz b)] w (.tuple #[.agg (sz (a / b)),.agg (sz (a%b))]):=by
 have hb16:b<Bs^16:=xh hb (yU Q4P Bs)
 have hB:Below w.heap.size w w:=Below.refl _ _
 go_enter func269,Tryz.ntmps269
 go_wp2_with fail
 have r0:IsRow ((((((w.alloc (.cells (sz a) 137)).alloc (.cells (sz b) 137)).alloc (.cells (sz 0) 137)).alloc (.cells (sz 0) 137)).alloc (.cells (sz 0) 137)).alloc (.cells (sz 0) 137)) w.heap.size 137 (sz a):=(((((IsRow.new w (sz a) 137).alloc (.cells (sz b) 137)).alloc (.cells (sz 0) 137)).alloc (.cells (sz 0) 137)).alloc (.cells (sz 0) 137)).alloc (.cells (sz 0) 137)
 have r1:IsRow ((((((w.alloc (.cells (sz a) 137)).alloc (.cells (sz b) 137)).alloc (.cells (sz 0) 137)).alloc (.cells (sz 0) 137)).alloc (.cells (sz 0) 137)).alloc (.cells (sz 0) 137)) (w.heap.size+1) 137 (sz b):=by
  have h:=((((IsRow.new (w.alloc (.cells (sz a) 137)) (sz b) 137).alloc (.cells (sz 0) 137)).alloc (.cells (sz 0) 137)).alloc (.cells (sz 0) 137)).alloc (.cells (sz 0) 137);rw[show(w.alloc (.cells (sz a) 137)).heap.size=w.heap.size+1 by simp] at h;exact h
 have r2:IsRow ((((((w.alloc (.cells (sz a) 137)).alloc (.cells (sz b) 137)).alloc (.cells (sz 0) 137)).alloc (.cells (sz 0) 137)).alloc (.cells (sz 0) 137)).alloc (.cells (sz 0) 137)) (w.heap.size+1+1) 137 (sz 0):=by
  have h:=(((IsRow.new ((w.alloc (.cells (sz a) 137)).alloc (.cells (sz b) 137)) (sz 0) 137).alloc (.cells (sz 0) 137)).alloc (.cells (sz 0) 137)).alloc (.cells (sz 0) 137);rw[show((w.alloc (.cells (sz a) 137)).alloc (.cells (sz b) 137)).heap.size=w.heap.size+1+1 by simp] at h;exact h
 have r3:IsRow ((((((w.alloc (.cells (sz a) 137)).alloc (.cells (sz b) 137)).alloc (.cells (sz 0) 137)).alloc (.cells (sz 0) 137)).alloc (.cells (sz 0) 137)).alloc (.cells (sz 0) 137)) (w.heap.size+1+1+1) 137 (sz 0):=by
  have h:=((IsRow.new (((w.alloc (.cells (sz a) 137)).alloc (.cells (sz b) 137)).alloc (.cells (sz 0) 137)) (sz 0) 137).alloc (.cells (sz 0) 137)).alloc (.cells (sz 0) 137);rw[show(((w.alloc (.cells (sz a) 137)).alloc (.cells (sz b) 137)).alloc (.cells (sz 0) 137)).heap.size=w.heap.size+1+1+1 by simp] at h;exact h
 have r4:IsRow ((((((w.alloc (.cells (sz a) 137)).alloc (.cells (sz b) 137)).alloc (.cells (sz 0) 137)).alloc (.cells (sz 0) 137)).alloc (.cells (sz 0) 137)).alloc (.cells (sz 0) 137)) (w.heap.size+1+1+1+1) 137 (sz 0):=by
  have h:=(IsRow.new ((((w.alloc (.cells (sz a) 137)).alloc (.cells (sz b) 137)).alloc (.cells (sz 0) 137)).alloc (.cells (sz 0) 137)) (sz 0) 137).alloc (.cells (sz 0) 137);rw[show((((w.alloc (.cells (sz a) 137)).alloc (.cells (sz b) 137)).alloc (.cells (sz 0) 137)).alloc (.cells (sz 0) 137)).heap.size=w.heap.size+1+1+1+1 by simp] at h;exact h
 have hB0:Below w.heap.size w ((((((w.alloc (.cells (sz a) 137)).alloc (.cells (sz b) 137)).alloc (.cells (sz 0) 137)).alloc (.cells (sz 0) 137)).alloc (.cells (sz 0) 137)).alloc (.cells (sz 0) 137)):=Q23
 have hsz0:((((((w.alloc (.cells (sz a) 137)).alloc (.cells (sz b) 137)).alloc (.cells (sz 0) 137)).alloc (.cells (sz 0) 137)).alloc (.cells (sz 0) 137)).alloc (.cells (sz 0) 137)).heap.size=w.heap.size+6:=by simp
 rw[<-qdc]
 generalize ((((((w.alloc (.cells (sz a) 137)).alloc (.cells (sz b) 137)).alloc (.cells (sz 0) 137)).alloc (.cells (sz 0) 137)).alloc (.cells (sz 0) 137)).alloc (.cells (sz 0) 137))=W at r0 r1 r2 r3 r4 hB0 hsz0 ⊢
 refine(qm5 w.heap.size 0 a (w.heap.size+1) 0 b W (Digs.of_sz r0) (Digs.of_sz r1) ha hb16).mono ?_
 rintro e w1 ⟨rfl,hb1,hs1⟩
 have l0:=r0.below hb1 r0.lt
 have l1:=r1.below hb1 r1.lt
 have l2:=r2.below hb1 r2.lt
 have l3:=r3.below hb1 r3.lt
 have l4:=r4.below hb1 r4.lt
 have hB1:Below w.heap.size w w1:=hB0.trans (hb1.mono Q4L)
 have hz1:w1.heap.size=w.heap.size+6:=by omega
 clear r0 r1 r2 r3 r4 hb1 hB0 hs1 hsz0 hB
 by_cases hab:a<b
 .have hc:cm a b = -1:=by unfold cm;rw[if_pos hab]
  rw[hc];clear hc
  go_wp2_with fail
  refine wp_region_any Q4Q ?_;change wpAny _ _ _ _ _ _ _ (World.drew _);refine wpAny_ready (rs:=[0,1]) Q4Q Q4X ?_;refine AllReady.cons rfl (λK hK=>?_) (AllReady.cons rfl (λK hK=>?_) AllReady.nil)
  .refine qb7 rfl 137 _ rfl (w.heap.size+1+1+1+1) rfl _ (sz 0) _ _ (l4.drew) underlying137 rfl Q4V ?_;refine hK _ _ ?_;clear hK K;refine wpAny_ready (rs:=[1,2]) Q4Q Q4X ?_;refine AllReady.cons rfl (λK hK=>?_) (AllReady.cons rfl (λK hK=>?_) AllReady.nil)
   .refine qb7 rfl 137 _ rfl (w.heap.size) rfl _ (sz a) _ _ (l0.drew) underlying137 rfl Q4V ?_;refine hK _ _ ?_;clear hK K;refine wpAny_ready (rs:=[2]) Q4Q Q4X ?_;refine AllReady.cons rfl (λK hK=>?_) AllReady.nil;refine qbm rfl 137 _ _ rfl (w.heap.size+1+1) (sz 0) rfl rfl _ _ (l2.drew) Q4V Q4X (qby _) ?_;refine hK _ _ ?_;clear hK K;refine wpAny_ready (rs:=[3]) Q4Q Q4X ?_;refine AllReady.cons rfl (λK hK=>?_) AllReady.nil;refine qbm rfl 137 _ _ rfl (w.heap.size+1+1+1) (sz a) rfl rfl _ _ (l3.drew.rowOther (w.heap.size+1+1) (sz 0) Q4L) Q4V Q4X (qby _) ?_;refine hK _ _ ?_;clear hK K;refine wpAny_done Q4Q ?_ _
    go_wp2_with fail
    have m2:=(l2.drew.row (sz 0)).rowOther (w.heap.size+1+1+1) (sz a) Q4L;have m3:=(l3.drew.rowOther (w.heap.size+1+1) (sz 0) Q4L).row (sz a);have h2:=run_loadVar_row (P:=prog) _ _ _ 137 _ _ _ m2 underlying137 rfl Q4V;have h3:=run_loadVar_row (P:=prog) _ _ _ 137 _ _ _ m3 underlying137 rfl Q4V;exact bodyPost_ret Q4l rfl ⟨by rw[xW hab,xX hab],below_setRow (below_setRow hB1.drew Q4L _) Q4L _⟩
   .refine qbm rfl 137 _ _ rfl (w.heap.size+1+1) (sz 0) rfl rfl _ _ (l2.drew) Q4V Q4X (qby _) ?_;refine hK _ _ ?_;clear hK K;refine wpAny_ready (rs:=[1]) Q4Q Q4X ?_;refine AllReady.cons rfl (λK hK=>?_) AllReady.nil;refine qb7 rfl 137 _ rfl (w.heap.size) rfl _ (sz a) _ _ (l0.drew.rowOther (w.heap.size+1+1) (sz 0) Q4L) underlying137 rfl Q4V ?_;refine hK _ _ ?_;clear hK K;refine wpAny_ready (rs:=[3]) Q4Q Q4X ?_;refine AllReady.cons rfl (λK hK=>?_) AllReady.nil;refine qbm rfl 137 _ _ rfl (w.heap.size+1+1+1) (sz a) rfl rfl _ _ (l3.drew.rowOther (w.heap.size+1+1) (sz 0) Q4L) Q4V Q4X (qby _) ?_;refine hK _ _ ?_;clear hK K;refine wpAny_done Q4Q ?_ _
    go_wp2_with fail
    have m2:=(l2.drew.row (sz 0)).rowOther (w.heap.size+1+1+1) (sz a) Q4L;have m3:=(l3.drew.rowOther (w.heap.size+1+1) (sz 0) Q4L).row (sz a);have h2:=run_loadVar_row (P:=prog) _ _ _ 137 _ _ _ m2 underlying137 rfl Q4V;have h3:=run_loadVar_row (P:=prog) _ _ _ 137 _ _ _ m3 underlying137 rfl Q4V;exact bodyPost_ret Q4l rfl ⟨by rw[xW hab,xX hab],below_setRow (below_setRow hB1.drew Q4L _) Q4L _⟩
  .refine qb7 rfl 137 _ rfl (w.heap.size) rfl _ (sz a) _ _ (l0.drew) underlying137 rfl Q4V ?_;refine hK _ _ ?_;clear hK K;refine wpAny_ready (rs:=[0]) Q4Q Q4X ?_;refine AllReady.cons rfl (λK hK=>?_) AllReady.nil;refine qb7 rfl 137 _ rfl (w.heap.size+1+1+1+1) rfl _ (sz 0) _ _ (l4.drew) underlying137 rfl Q4V ?_;refine hK _ _ ?_;clear hK K;refine wpAny_ready (rs:=[2]) Q4Q Q4X ?_;refine AllReady.cons rfl (λK hK=>?_) AllReady.nil;refine qbm rfl 137 _ _ rfl (w.heap.size+1+1) (sz 0) rfl rfl _ _ (l2.drew) Q4V Q4X (qby _) ?_;refine hK _ _ ?_;clear hK K;refine wpAny_ready (rs:=[3]) Q4Q Q4X ?_;refine AllReady.cons rfl (λK hK=>?_) AllReady.nil;refine qbm rfl 137 _ _ rfl (w.heap.size+1+1+1) (sz a) rfl rfl _ _ (l3.drew.rowOther (w.heap.size+1+1) (sz 0) Q4L) Q4V Q4X (qby _) ?_;refine hK _ _ ?_;clear hK K;refine wpAny_done Q4Q ?_ _
   go_wp2_with fail
   have m2:=(l2.drew.row (sz 0)).rowOther (w.heap.size+1+1+1) (sz a) Q4L;have m3:=(l3.drew.rowOther (w.heap.size+1+1) (sz 0) Q4L).row (sz a);have h2:=run_loadVar_row (P:=prog) _ _ _ 137 _ _ _ m2 underlying137 rfl Q4V;have h3:=run_loadVar_row (P:=prog) _ _ _ 137 _ _ _ m3 underlying137 rfl Q4V;exact bodyPost_ret Q4l rfl ⟨by rw[xW hab,xX hab],below_setRow (below_setRow hB1.drew Q4L _) Q4L _⟩
 .have hc:decide (cm a b<0)=false:=xl (by rw[qr0];exact hab);have hn1:=qw8 b hb0 hb
  go_wp2_with fail
  refine(qfo w.heap.size 0 a _ (Digs.of_sz l0)).mono ?_;rintro e w' ⟨rfl,rfl⟩
  go_wp2_with fail
  refine(qfo (w.heap.size+1) 0 b _ (Digs.of_sz l1)).mono ?_;rintro e w' ⟨rfl,rfl⟩;rw[hn1];have hna:=nd_le a;have hlt:=qhp a 16 ha;rw[show ndTo a 16=nd a from rfl] at hlt
  go_wp2_with fail
  go_loopw [10,11] (λl i wr=>∃n:Nat,n<=nd a/\i=xc (n-1)/\l=.int .u64 (rm a b n:Nat)/\IsRow wr w.heap.size 137 (sz a)/\IsRow wr (w.heap.size+1) 137 (sz b)/\IsRow wr (w.heap.size+1+1) 137 (sz 0)/\IsRow wr (w.heap.size+1+1+1) 137 (sz 0)/\IsRow wr (w.heap.size+1+1+1+1) 137 (lim 16 (q4l a b n))/\Below w.heap.size w wr) (λ_ i _=>(intOf i+1).toNat)
  case atStart=>
   refine⟨nd a,nlr _,rfl,by unfold rm;rw[xW hlt,Nat.zero_mod];rfl,l0,l1,l2,l3,?_,hB1⟩
   rw[qce 16 (q4l a b (nd a)) (dg 0) (λj hj=>by
    rw[qe0];unfold q4l;split
    .exact qip _ _ (x8 (yI _ _) (xh hlt (yi qeg Q4L)))
    .rfl)]
   exact l4
  case round=>
   clear l0 l1 l2 l3 l4 hB1 hz1
   obtain⟨n,hn,rfl,rfl,l0,l1,l2,l3,l4,hB1⟩:=hrel
   match n,hn with
   | 0,hn=>
    rw[qce 16 (q4l a b 0) (dg (a / b)) (λj hj=>by unfold q4l;rw[if_pos Q4L])] at l4;have l4':IsRow wr (w.heap.size+1+1+1+1) 137 (sz (a / b)):=l4;clear l4;have hrm:rm a b 0=a%b:=by unfold rm;rw[Nat.pow_zero,Nat.div_one]
    have hbm:a%b<18446744073709551616:=xM (xA a hb0) hb;have hbt:prog.built 137 [(0,.int .u64 ((rm a b 0:Nat):Int))]=some (sz (a%b)):=by rw[hrm];exact qgy (a%b) hbm
    clear hrm
    go_wp2_with (first|(refine qcb (ty:=137) rfl ?_;refine wpList_load_row ?_ 137 _ rfl (w.heap.size+1+1+1+1) rfl _ (sz (a / b)) _ _ (l4') underlying137 rfl Q4V ?_;(focus rfl))|(refine qdg (ty:=137) rfl ?_;refine qct ?_ 137 0 _ rfl (.int .u64 ((rm a b 0:Nat):Int)) rfl (sz (a%b)) (hbt) ?_;(focus rfl))|(refine qbc (ty:=137) rfl ?_;refine wpList_store_row ?_ 137 _ _ rfl (w.heap.size+1+1) (sz (a / b)) rfl rfl _ (_) (l2) Q4V Q4X (qby _) ?_;(focus rfl))|(refine qbc (ty:=137) rfl ?_;refine wpList_store_row ?_ 137 _ _ rfl (w.heap.size+1+1+1) (sz (a%b)) rfl rfl _ (_) (l3.rowOther (w.heap.size+1+1) (sz (a / b)) Q4L) Q4V Q4X (qby _) ?_;(focus rfl))|fail)
    have m2:=(l2.row (sz (a / b))).rowOther (w.heap.size+1+1+1) (sz (a%b)) Q4L;have m3:=(l3.rowOther (w.heap.size+1+1) (sz (a / b)) Q4L).row (sz (a%b));have h2:=run_loadVar_row (P:=prog) _ _ _ 137 _ _ _ m2 underlying137 rfl Q4V;have h3:=run_loadVar_row (P:=prog) _ _ _ 137 _ _ _ m3 underlying137 rfl Q4V;exact bodyPost_ret Q4l rfl ⟨rfl,below_setRow (below_setRow hB1 Q4L _) Q4L _⟩
   | n+1,hn=>
    have e1:((n+1:Nat):Int)-1=n:=by omega
    rw[e1];have i0:(0:Int)<=(n:Int):=by omega
    have i1:(n:Int)<16:=by omega
    have i2:(n:Int)<=16:=by omega
    have i3:(n:Int).toNat=n:=by omega
    have c0:=l0.cell (qhm a n Q4L);have c1:=l1.cell (qhm b 0 Q4L);rw[show dg b 0=b by rw[qcs b hb];rfl] at c1;have c4:=l4.cell (qdl 16 (q4l a b (n+1)) n Q4L);have f4:=l4.frozen n;have hz:=hB1.size
    go_wp2_with fail
    go_region_held3 (λw'=>w'.cell? ⟨w.heap.size,n,none⟩=some (.int .u64 (dg a n:Nat))/\w'.cell? ⟨w.heap.size+1,0,none⟩=some (.int .u64 (b:Nat))) (first|exact⟨c0,c1⟩|exact⟨k0,k1⟩|(refine⟨?_,?_⟩<;>(repeat (first|with_reducible assumption|with_reducible refine qh7 ?_|with_reducible refine qdb ?_|with_reducible refine qjg ?_|with_reducible refine qjf ?_ (by first|(simp only[ne_eq,Addr.mk.injEq,and_true];omega)|(simp;done)|(simp;omega))));done)|(go_keep;done))
     (first|(go_at_call 293;refine(H n _ Q4L).mono ?_;rintro e w1 ⟨rfl,hbw⟩;have m0:=l0.drew.below hbw l0.lt;have m1:=l1.drew.below hbw l1.lt;have m2:=l2.drew.below hbw l2.lt;have m3:=l3.drew.below hbw l3.lt;have m4:=l4.drew.below hbw l4.lt;have hB:=hB1.drew.trans (hbw.mono hz);have k0:=m0.cell (qhm a n Q4L);have k1:=m1.cell (show(sz b)[0]?=some (.int .u64 (b:Nat)) by rw[qhm b 0 Q4L,qcs b hb];rfl);have k4:=m4.cell (qdl 16 (q4l a b (n+1)) n Q4L);have kf:=m4.frozen n))
    all_goals
     go_wp2_with fail
     go_roundw
    all_goals first
     | (case measure=>simp[intOf])
     | (case rel=>
       refine⟨n,by omega,rfl,rfl,m0.setOther _ _ Q5s,m1.setOther _ _ Q5s,m2.setOther _ _ Q5s,m3.setOther _ _ Q5s,?_,hB.setCell (by show w.heap.size<=w.heap.size+1+1+1+1;omega) _⟩;have hs:=m4.set n (.int .u64 (dg (a / b) n:Nat));rw[qhl 16 (q4l a b (n+1)) (q4l a b n) n _ Q4L (by rw[qys]) (λj _ hj=>qrz a b n j hj)] at hs;exact hs)
end Go.Proofs.YtggfpcfkbilkmaaGreatDoor


namespace Go.Proofs.YtggfpcfkbilkmaaGreatDoor.Knuth
abbrev h:Nat:=4294967296
variable{y1 y0 u d q r:Nat}
structure Guess(y1 y0 u d q r:Nat):Prop where
 sum:q*y1+r=u
 ge:(u*h+d) / (y1*h+y0)<=q
 le:q<=h+1
theorem digit_lt(hd:d<h)(hu:u<y1*h+y0):(u*h+d) / (y1*h+y0)<h:=by
 rw[yq Q4L];have:(u+1)*h<=(y1*h+y0)*h:=yp _ hu;rw[xB] at this;rw[xn h];simp only[h] at *;omega
theorem first(hy1:2147483648<=y1)(hy1':y1<h)(hy0:y0<h)(hd:d<h)(hu:u<y1*h+y0):Guess y1 y0 u d (u / y1) (u%y1):=by
 have hp:0<y1:=by omega
 refine⟨by rw[xn];exact xK u y1,?_,?_⟩
 ·-- the digit is at most u / y1
  have e1:(u*h+d) / (y1*h+y0)<=(u*h+d) / (y1*h):=Nat.div_le_div_left Q4L (by simp only[h];omega);have e2:(u*h+d) / (y1*h)=u / y1:=by
   rw[xn y1,<-yx,xn u,yS Q4P,xW hd,yb]
  omega
 .have:u / y1<h+2:=by
   rw[yq hp,xB];simp only[h] at *;omega
  omega
theorem qr1(hp:0<y1*h+y0)(hs:q*y1+r=u)(hg:h*r+d<q*y0):(u*h+d) / (y1*h+y0)<q:=by
 rw[yq hp];exact Q25
theorem jaz(hp:0<y1*h+y0)(hs:q*y1+r=u)(hg:q*y0<=h*r+d):q<=(u*h+d) / (y1*h+y0):=by
 rw[Nat.le_div_iff_mul_le hp];exact Q25
theorem down(hd:d<h)(hu:u<y1*h+y0)(g:Guess y1 y0 u d q r)(ht:h<=q\/h*r+d<q*y0):0<q/\Guess y1 y0 u d (q-1) (r+y1):=by
 have hp:0<y1*h+y0:=by omega
 have hlt:=digit_lt hd hu;have hq:(u*h+d) / (y1*h+y0)<q:=by
  rcases ht with h1|h1
  .exact xh hlt h1
  .exact qr1 hp g.sum h1
 have h0:0<q:=x8 (xr _) hq;obtain⟨k,rfl⟩:∃k,q=k+1:=⟨q-1,by omega⟩;refine⟨h0,⟨?_,by simp only[Nat.add_sub_cancel];omega,by have:=g.le;simp only[Nat.add_sub_cancel];omega⟩⟩;have:=g.sum;rw[xB,Nat.one_mul] at this;simp only[Nat.add_sub_cancel];omega
theorem stop(hd:d<h)(hu:u<y1*h+y0)(g:Guess y1 y0 u d q r)(hq:q<h)(ht:q*y0<=h*r+d):q=(u*h+d) / (y1*h+y0):=by
 have:=jaz Q4L g.sum ht;have:=g.ge;omega
theorem stop'(hy0:y0<h)(hd:d<h)(hu:u<y1*h+y0)(g:Guess y1 y0 u d q r)(hq:q<=h)(hr:h<=r):q=(u*h+d) / (y1*h+y0):=by
 have e1:q*y0<=h*y0:=yp _ hq;have e2:h*h<=h*r:=Nat.mul_le_mul_left _ hr;have e3:h*y0<=h*h:=Nat.mul_le_mul_left _ (Nat.le_of_lt hy0);have:=jaz Q4L g.sum (show q*y0<=h*r+d by omega);have:=g.ge;omega
theorem two(u d1 d0 Y:Nat)(hY:0<Y):(u*h*h+d1*h+d0) / Y=(u*h+d1) / Y*h+((u*h+d1)%Y*h+d0) / Y/\(u*h*h+d1*h+d0)%Y=((u*h+d1)%Y*h+d0)%Y:=by
 have e0:=xK (u*h+d1) Y;have e:u*h*h+d1*h+d0=Y*((u*h+d1) / Y*h)+((u*h+d1)%Y*h+d0):=by
  rw[<-xB]
  conv=>lhs;rw[<-e0]
  rw[xB,xV,xS]
 rw[e,yS hY,yT];exact⟨rfl,rfl⟩
theorem words(hi lo s:Nat)(hs:s<64):(hi*18446744073709551616+lo)*2^s=(hi*2^s+lo / 2^(64-s))*18446744073709551616+lo*2^s%18446744073709551616:=by
 have e:(18446744073709551616:Nat)=2^(64-s)*2^s:=by rw[<-xN,show 64-s+s=64 by omega]
 have hp:0<2^s:=yd Q4P;have e1:lo*2^s / 18446744073709551616=lo / 2^(64-s):=by
  rw[e,Nat.mul_div_mul_right _ _ hp]
 have e2:=xK (lo*2^s) 18446744073709551616;rw[e1] at e2;rw[xB,xB,Nat.mul_right_comm hi];omega
theorem back(n y s:Nat):n*2^s / (y*2^s)=n / y/\n*2^s%(y*2^s) / 2^s=n%y:=by
 have hp:0<2^s:=yd Q4P;refine⟨Nat.mul_div_mul_right _ _ hp,?_⟩;rw[Nat.mul_mod_mul_right,Nat.mul_div_cancel _ hp]
theorem join(u l d1 d0:Nat)(el:l=d1*4294967296+d0):u*18446744073709551616+l=u*h*h+d1*h+d0:=by
 subst el;show u*18446744073709551616+(d1*4294967296+d0)=u*4294967296*4294967296+d1*4294967296+d0;omega
end Go.Proofs.YtggfpcfkbilkmaaGreatDoor.Knuth


namespace Go.Proofs.YtggfpcfkbilkmaaGreatDoor
open Go.RowKit
def d64q(hi lo y:Nat):Nat:=(hi*18446744073709551616+lo) / y
def d64r(hi lo y:Nat):Nat:=(hi*18446744073709551616+lo)%y
theorem q02(y:Nat)(hy:y<18446744073709551616)(w:World):Calls prog 294 #[.int .u64 y] w λe w'=>e=.returned (xc (64-(lb y:Int)))/\w=w':=
 (Tryz.bits_LeadingZeros64 y w Q4L Q4L).mono λe w' h=>⟨h.1,h.2.symm⟩
theorem qpn(y:Nat)(h0:0<y)(hy:y<18446744073709551616):∃s:Nat,s<64/\(64:Int)-(lb y:Int)=(s:Int)/\9223372036854775808<=y*2^s/\y*2^s<18446744073709551616:=by
 obtain⟨b1,b2⟩:=qdo 64 y hy;obtain⟨b3,b4⟩:=b2 Q4L;have e:Lib.bitLenAux 64 y=lb y:=rfl;rw[e] at b1 b3 b4;have hl:=q7q y hy;refine⟨64-lb y,by omega,by omega,?_,?_⟩
 .have:2^(lb y-1)*2^(64-lb y)=9223372036854775808:=by
   rw[<-xN,show lb y-1+(64-lb y)=63 by omega]
  rw[<-this];exact yp _ b3
 .have:2^lb y*2^(64-lb y)=18446744073709551616:=by
   rw[<-xN,show lb y+(64-lb y)=64 by omega]
  rw[<-this];exact zc b1 (yd Q4P)
theorem qr2(x:Nat)(hx:x<18446744073709551616):bits .and .u64 (x:Int) 4294967295=((x%4294967296:Nat):Int):=by
 have:=(bits_nat .u64 64 Q4P (λn h0 h1=>by rw[xm];omega) x 4294967295 hx Q4P).1;refine this.trans ?_;rw[show(4294967295:Nat)=2^32-1 from rfl,Nat.and_two_pow_sub_one_eq_mod]
theorem qu1(hi lo s:Nat)(hs:s<64)(h1:hi*2^s<18446744073709551616)(hlo:lo<18446744073709551616):
  bits .or .u64 (IntKind.u64.wrap ((hi:Int)*2^s)) ((lo:Int) / 2^(64-s))=((hi*2^s+lo / 2^(64-s):Nat):Int):=by
 by_cases h0:0<s
 .rw[q7s hi lo s h0 hs hlo,xX h1]
 .obtain rfl:s=0:=by omega
  rw[qga,qcc,qrx _ _ (xA _ Q4P) (x8 (yI _ _) hlo),xX h1];rw[show lo / 2^(64-0)=0 from xW hlo,Nat.or_zero,yb]
theorem qu2(hi lo y:Nat)(h0:0<hi)(h1:hi<y)(hlo:lo<18446744073709551616)(hy:y<18446744073709551616)(w:World):
  xa 293 #[.int .u64 hi,.int .u64 lo,.int .u64 y] w (.tuple #[.int .u64 (d64q hi lo y:Nat),.int .u64 (d64r hi lo y:Nat)]):=by
 have hB:Below w.heap.size w w:=Below.refl _ _
 have g1:((y:Int)==0)=false:=by simp;omega
 have g2:¬ (y:Int)<=hi:=by omega
 have g3:((hi:Int)==0)=false:=by simp;omega
 obtain⟨s,hs,hs',hY1,hY2⟩:=qpn y Q4L hy
 have hp:0<2^s:=yd Q4P
 have hhi:hi*2^s<18446744073709551616:=xM (zc h1 hp) hY2
 have hW:=Knuth.words hi lo s hs
 have hbk:=Knuth.back (hi*18446744073709551616+lo) y s
 have hN:hi*18446744073709551616+lo<y*18446744073709551616:=by omega
 have hN2:(hi*18446744073709551616+lo)*2^s<y*2^s*18446744073709551616:=by
  rw[Nat.mul_right_comm];exact zc hN hp
 have f1:IntKind.u64.wrap ((y:Int)*2^s)=((y*2^s:Nat):Int):=by rw[qga,xX hY2]
 have f4:=qu1 hi lo s hs hhi hlo
 have f5:=qga lo s
 have hl64:lo*2^s%18446744073709551616<18446744073709551616:=xA _ Q4P
 have hlo2:lo / 2^(64-s)<=lo:=yI _ _
 rw[hW] at hbk hN2
 generalize hYY:y*2^s=Y at *
 generalize hu:hi*2^s+lo / 2^(64-s)=u at *
 generalize hl:lo*2^s%18446744073709551616=l at *
 have huY:u<Y:=by omega
 clear hW hN hN2 hYY hu hl hhi hp hlo2
 have f2:(Y:Int) / 4294967296=((Y / 4294967296:Nat):Int):=rfl
 have f3:=qr2 Y hY2
 have f6:(l:Int) / 4294967296=((l / 4294967296:Nat):Int):=rfl
 have f7:=qr2 l hl64
 have eY:=xK Y 4294967296
 have el:=xK l 4294967296
 have y0h:=xA Y (show 0<4294967296 by decide)
 have d0h:=xA l (show 0<4294967296 by decide)
 have y1a:2147483648<=Y / 4294967296:=by omega
 have y1b:Y / 4294967296<4294967296:=by omega
 have d1h:l / 4294967296<4294967296:=by omega
 generalize Y / 4294967296=y1 at *
 generalize Y%4294967296=y0 at *
 generalize l / 4294967296=d1 at *
 generalize l%4294967296=d0 at *
 have HE:=Lib.hid (show Y=y1*4294967296+y0/\l=d1*4294967296+d0 from⟨by omega,by omega⟩)
 clear eY el
 have G:=Knuth.first (u:=u) (d:=d1) y1a y1b y0h d1h (by have:=HE.out.1;show u<y1*4294967296+y0;omega)
 have hq1:=G.le
 have hq2:=G.sum
 have hr1:=xA u (show 0<y1 by omega)
 have f8:(u:Int).tdiv y1=((u / y1:Nat):Int):=rfl
 have f8':(u:Int) / y1=((u / y1:Nat):Int):=rfl
 generalize u / y1=q at *
 generalize u%y1=r at *
 have hqy:((q*y1:Nat):Int)=(q:Int)*(y1:Int):=x5 _ _
 have f9:IntKind.u64.wrap ((q:Int)*(y1:Int))=((q*y1:Nat):Int):=by rw[xm,<-hqy];omega
 have f10:IntKind.u64.wrap ((u:Int)-((q*y1:Nat):Int))=(r:Int):=by rw[xm];omega
 have f11:IntKind.u64.wrap (q:Int)=(q:Int):=by rw[xm];simp only[Knuth.h] at hq1;omega
 generalize hqq:q*y1=qy at *
 clear hqy hqq hq2
 go_enter func293,Tryz.ntmps293
 go_wp2_with fail
 refine(q02 y hy _).mono ?_
 rintro e w' ⟨rfl,rfl⟩
 rw[hs']
 clear hs'
 go_wp2_with fail
 clear f1 f2 f3 f4 f5 f6 f7 f8 f8' f9 f10 f11 g1 g2 g3
 have hr2:r<4294967296:=by omega
 have HG:=Lib.hid G
 clear G hq1 hr1
 go_loopw [15,16] (λa b wr=>wr=w/\∃q r:Nat,a=.int .u64 q/\b=.int .u64 r/\r<4294967296/\Hid (Knuth.Guess y1 y0 u d1 q r)) (λa b _=>(intOf a).toNat)
 case atStart=>exact⟨rfl,_,_,rfl,rfl,hr2,HG⟩
 case round=>
  clear HG hr2
  obtain⟨e0,q,r,rfl,rfl,hr2,HG⟩:=hrel
  have e0':=e0.symm
  clear e0
  subst e0'
  have hu':u<y1*Knuth.h+y0:=by have:=HE.out.1;show u<y1*4294967296+y0;omega
  have hq1:q<=4294967297:=HG.out.le
  obtain⟨m,hm⟩:∃m:Nat,q*y0=m:=⟨_,rfl⟩
  have hm1:m<=4294967297*4294967295:=by rw[<-hm];exact yc hq1 Q4L
  have e1:IntKind.u64.wrap ((q:Int)*(y0:Int))=(m:Int):=by
   rw[<-x5,hm,xm];omega
  obtain⟨k0,hk0⟩:∃k:Nat,4294967296*r=k:=⟨_,rfl⟩
  have e2:IntKind.u64.wrap (4294967296*(r:Int))=(k0:Int):=by rw[xm];omega
  obtain⟨k,hk⟩:∃k:Nat,k0+d1=k:=⟨_,rfl⟩
  have e3:IntKind.u64.wrap ((k0:Int)+(d1:Int))=(k:Int):=by rw[xm];omega
  have hkk:Knuth.h*r+d1=k:=by simp only[Knuth.h];omega
  have hdn:Knuth.h<=q\/k<m->0<q/\Knuth.Guess y1 y0 u d1 (q-1) (r+y1):=λht=>Knuth.down d1h hu' HG.out (by rw[hkk,hm];exact ht)
  have hst:q<Knuth.h->m<=k->q=(u*Knuth.h+d1) / (y1*Knuth.h+y0):=λh1 h2=>Knuth.stop d1h hu' HG.out h1 (by rw[hkk,hm];exact h2)
  obtain⟨r',hr'⟩:∃r',r+y1=r':=⟨_,rfl⟩
  have e5:IntKind.u64.wrap ((r:Int)+(y1:Int))=(r':Int):=by rw[xm];omega
  have hr3:r'<18446744073709551616:=by omega
  rw[hr'] at hdn
  have HH:=Lib.hid hdn
  have HS:=Lib.hid hst
  have hq64:(q:Int)<18446744073709551616:=by omega
  clear hm hk0 hk hkk hdn hst hm1 hr'
  by_cases hA:4294967296<=q
  .have HT:Hid (Knuth.h<=q\/k<m):=.inl hA;have t1:decide ((q:Int)>=4294967296)=true:=xg Q4L;have t1':(4294967296:Int)<=(q:Int):=by omega
   clear hA;exact Q0Z
  .by_cases hB:k<m
   .have HT:Hid (Knuth.h<=q\/k<m):=.inr hB;have t1:¬ (4294967296:Int)<=(q:Int):=by omega
    have t2:(k:Int)<(m:Int):=by omega
    clear hA hB;exact Q0Z
   .have HF:=Lib.hid (HS.out Q5E Q4L);have t1:¬ (4294967296:Int)<=(q:Int):=by omega
    have t2:¬ (k:Int)<(m:Int):=by omega
    clear hA hB hq1;have hdq1:(u*4294967296+d1) / Y=q:=by rw[HE.out.1];exact HF.out.symm
    have hq1h:q<4294967296:=by rw[<-hdq1,HE.out.1];exact Knuth.digit_lt (y1:=y1) (y0:=y0) d1h hu'
    have HD1:=Lib.hid hdq1;have aE:=xK (u*4294967296+d1) Y;have aQ:(u*4294967296+d1) / Y=q:=hdq1;rw[aQ] at aE;have aL:=xA (u*4294967296+d1) (show 0<Y by omega);obtain⟨v,vE⟩:∃z,(u*4294967296+d1)%Y=z:=⟨_,rfl⟩;rw[vE] at aE aL;obtain⟨aC,aCE⟩:∃c,q*Y%18446744073709551616=c:=⟨_,rfl⟩;have a3:IntKind.u64.wrap ((q:Int)*(Y:Int))=(aC:Int):=by rw[<-x5,xm];omega
    rw[xn Y] at aE;obtain⟨aA,aAE⟩:∃c,u*4294967296%18446744073709551616=c:=⟨_,rfl⟩;have a1:IntKind.u64.wrap ((u:Int)*4294967296)=(aA:Int):=by rw[xm];omega
    obtain⟨aB,aBE⟩:∃c,(aA+d1)%18446744073709551616=c:=⟨_,rfl⟩;have a2:IntKind.u64.wrap ((aA:Int)+(d1:Int))=(aB:Int):=by rw[xm];omega
    have a4:IntKind.u64.wrap ((aB:Int)-(aC:Int))=(v:Int):=by
     rw[xm];generalize q*Y=P at *;omega
    have Hv:=Lib.hid vE;clear aE aCE aAE aBE vE;have hvY:v<Y:=aL;clear aQ hdq1 aL HF;obtain⟨qa,rfl⟩:∃c,c=q:=⟨_,rfl⟩;exact Q00
open Go Go.RowKit Sx
theorem qap(neg over:Bool)(v:Nat):qaq (.agg ⟨wiL neg over v⟩)=true:=qaf neg over v
theorem cMade(neg:Bool)(v:Nat)(h:Hp)(hv:v<Top):qae prog 189 [.bool neg,.agg ⟨limL 16 (dg v)⟩] h (.agg ⟨wiL (neg&&decide (v≠0)) false v⟩) [] []:=
 qan (by simp[qad];rfl) (qap _ _ _) (call189 _) λw=>by
  have:=qon neg v hv w;rw[q7r] at this;exact this
theorem cOf(n:Int)(h:Hp)(h0 : -9223372036854775808<=n)(h1:n<9223372036854775808):qae prog 111 [xc n] h (.agg ⟨wiL (decide (n<0)) false n.natAbs⟩) [] []:=
 qan rfl (qap _ _ _) (call111 _) λw=>by
  have:=qyp n h0 h1 w;unfold zi at this;rw[q7r] at this;exact this
theorem qpo{o:Bool}{n m p:Nat}{f:Nat->Nat}(hp:p+m<=n):Reads ⟨o,n,[(0,n,.agg ⟨limL n f⟩)]⟩ p true m (.agg ⟨limL m λk=>f (p+k)⟩):=by
 refine⟨hp,_,rfl,qgw _ _,λk hk=>?_⟩;refine Q1b ?_;simp only[cellIn];rw[qd0 hk,show p+k-0=p+k from rfl,qd0 Q4L]
theorem qpp{n:Nat}{ps:Pz}{v:Value}:Writes ⟨true,n,ps⟩ 0 n v ⟨true,n,[(0,n,v)]⟩:=by
 refine⟨rfl,by show 0+n<=n;omega,rfl,λk hk=>?_⟩;have hk:k<n:=hk;show qa0 _ _=_;rw[qai,if_pos Q4L,if_pos Q4L]
def mT(v u i:Nat):Nat:=v%Bs^i*u
def mX(v u i j:Nat):Nat:=mT v u i+Bs^i*dg v i*(u%Bs^j)
def mC(v u i j:Nat):Nat:=mX v u i j / Bs^(i+j)-mT v u i / Bs^(i+j)
def mA(v u i j k:Nat):Nat:=if k<i+j then dg (mX v u i j) k else dg (mT v u i) k
theorem qr3(v u i:Nat):mX v u i 0=mT v u i:=by simp[mX,yH]
theorem qr4(v u i:Nat):mC v u i 0=0:=by simp[mC,qr3]
theorem qyt(v u i k:Nat):mA v u i 0 k=dg (mT v u i) k:=by unfold mA;rw[qr3];split<;>rfl
theorem qyu(v u:Nat):mT v u 0=0:=by simp[mT,yH]
theorem qr5(v u i j:Nat):mX v u i (j+1)=mX v u i j+Bs^(i+j)*(dg v i*dg u j):=by
 unfold mX;rw[qgu,Nat.mul_add,<-xS,xN];congr 1;simp only[xV,Nat.mul_left_comm]
theorem q9h(v u i j:Nat):mT v u i<=mX v u i j:=Nat.le_add_right _ _
theorem qw9(v u i j:Nat):mX v u i j / Bs^(i+j)=mT v u i / Bs^(i+j)+mC v u i j:=by
 unfold mC;have:=Nat.div_le_div_right (c:=Bs^(i+j)) (q9h v u i j);omega
theorem qr6(v u i j:Nat):mX v u i (j+1) / Bs^(i+j)=mT v u i / Bs^(i+j)+mC v u i j+dg v i*dg u j:=by
 rw[qr5,Nat.add_mul_div_left _ _ (qbr _),qw9]
theorem qr7(v u i j:Nat):mC v u i (j+1)=(dg v i*dg u j+dg (mT v u i) (i+j)+mC v u i j) / 18446744073709551616:=by
 have h:=qr6 v u i j;have hs:=qcj (mT v u i) (i+j);have h2:mX v u i (j+1) / Bs^(i+(j+1))=mX v u i (j+1) / Bs^(i+j) / Bs:=by
  rw[yx,show i+(j+1)=(i+j)+1 from rfl,yw]
 generalize hc:mC v u i j=c at *;show mX v u i (j+1) / Bs^(i+(j+1))-mT v u i / Bs^(i+(j+1))=_;rw[h2,h,hs,show i+(j+1)=(i+j)+1 from rfl];rw[show mT v u i / Bs^(i+j+1)*Bs+dg (mT v u i) (i+j)+c+dg v i*dg u j=Bs*(mT v u i / Bs^(i+j+1))+(dg v i*dg u j+dg (mT v u i) (i+j)+c) by rw[xn];omega];rw[yS qeg,Nat.add_sub_cancel_left]
theorem q03(v u i j:Nat):dg (mX v u i (j+1)) (i+j)=(dg v i*dg u j+dg (mT v u i) (i+j)+mC v u i j)%18446744073709551616:=by
 have h:=qr6 v u i j;have hs:=qcj (mT v u i) (i+j);show mX v u i (j+1) / Bs^(i+j)%Bs=_;rw[h,hs];rw[show mT v u i / Bs^(i+j+1)*Bs+dg (mT v u i) (i+j)+mC v u i j+dg v i*dg u j=Bs*(mT v u i / Bs^(i+j+1))+(dg v i*dg u j+dg (mT v u i) (i+j)+mC v u i j) by rw[xn];omega];rw[yT]
theorem qoq{a b t c:Nat}(ha:a<18446744073709551616)(hb:b<18446744073709551616)(ht:t<18446744073709551616)(hc:c<18446744073709551616):(a*b+t+c) / 18446744073709551616<18446744073709551616:=by
 have:a*b<=18446744073709551615*18446744073709551615:=yc Q4L Q4L;omega
theorem q6p(v u i:Nat):∀j,mC v u i j<18446744073709551616
 | 0=>by rw[qr4];decide
 | j+1=>by rw[qr7];exact qoq (q21 _ _) (q21 _ _) (q21 _ _) (q6p v u i j)
theorem q04(x y p k:Nat)(h:k<p):dg (x+Bs^p*y) k=dg x k:=by
 rw[<-qw2 (x+Bs^p*y) p k h,Nat.add_mul_mod_self_left,qw2 x p k h]
theorem qyv(v u i j k:Nat)(h:k≠i+j):mA v u i (j+1) k=mA v u i j k:=by
 unfold mA;by_cases hk:k<i+j
 .rw[if_pos hk,if_pos Q4L,qr5,q04 _ _ _ _ hk]
 .rw[if_neg hk,if_neg Q4L]
theorem q9i(v u i j:Nat):mA v u i (j+1) (i+j)=(dg v i*dg u j+dg (mT v u i) (i+j)+mC v u i j)%18446744073709551616:=by
 unfold mA;rw[if_pos Q4L,q03]
theorem q05(v u i j:Nat):mA v u i j (i+j)=dg (mT v u i) (i+j):=by unfold mA;rw[if_neg Q4L]
theorem q06(v u i n:Nat)(hu:u<Bs^n):mX v u i n=mT v u (i+1):=by
 unfold mX mT;rw[xX hu,qgu,xB]
theorem q6q(v u i n:Nat)(hu:u<Bs^n):mT v u i<Bs^(i+n):=by
 unfold mT;rw[xN];have h1:=xA v (qbr i);exact Nat.mul_lt_mul'' h1 hu
theorem qr8(v u i n k:Nat)(hu:u<Bs^n):dg (mT v u (i+1)) k=if k<i+n then mA v u i n k else if k=i+n then mC v u i n else dg (mT v u i) k:=by
 have hx:=q06 v u i n hu;have h0:mT v u i / Bs^(i+n)=0:=xW (q6q v u i n hu);by_cases h1:k<i+n
 .rw[if_pos h1];unfold mA;rw[if_pos h1,hx]
 .rw[if_neg h1];by_cases h2:k=i+n
  .rw[if_pos h2];subst h2;have h3:=qw9 v u i n;rw[h0,xj,hx] at h3;show mT v u (i+1) / Bs^(i+n)%Bs=_;rw[h3,xX (q6p v u i n)]
  .rw[if_neg h2];have h4:i+n<=k:=by omega
   have h5:Bs^(i+n)<=Bs^k:=yi qeg h4;have h6:Bs^(i+1+n)<=Bs^k:=yi qeg Q4L;rw[qip _ _ (xh (q6q v u i n hu) h5),qip _ _ (xh (q6q v u (i+1) n hu) h6)]
theorem qyw(v u i n k:Nat)(h:i+n<=k):mA v u i n k=dg (mT v u i) k:=by unfold mA;rw[if_neg Q4L]
theorem q07(v u m:Nat)(hv:v<Bs^m):mT v u m=v*u:=by unfold mT;rw[xX hv]
theorem qyx(ab t c:Nat):(((((ab%18446744073709551616:Nat):Int)+(t:Int)+0)%18446744073709551616)+(c:Int)+0)%18446744073709551616=(((ab+t+c)%18446744073709551616:Nat):Int):=by omega
theorem qu3(ab t c:Nat)(h:(ab+t+c) / 18446744073709551616<18446744073709551616):IntKind.u64.wrap (IntKind.u64.wrap (((ab / 18446744073709551616:Nat):Int)+(((ab%18446744073709551616:Nat):Int)+(t:Int)+0) / 18446744073709551616)+((((ab%18446744073709551616:Nat):Int)+(t:Int)+0)%18446744073709551616+(c:Int)+0) / 18446744073709551616)=(((ab+t+c) / 18446744073709551616:Nat):Int):=by
 rw[xm,xm];omega
theorem qyy{a b:Int}(h:a=b):Value.int .u64 a=.int .u64 b:=by rw[h]
theorem qe2{a b:Int}(h:a=b):xc a=xc b:=by rw[h]
theorem q9j(n1 n2:Bool)(v u:Nat)(hv:v<Bs^16)(hu:u<Bs^16)(hvu:v*u<Top)(w:World):
  xa 146 #[.agg ⟨wiL n1 false v⟩,.agg ⟨wiL n2 false u⟩] w (.agg ⟨wiL ((n1 != n2)&&decide (v*u≠0)) false (v*u)⟩):=by
 have hn1:=nd_le v
 have hn2:=nd_le u
 have hvm:v<Bs^nd v:=qhp v 16 hv
 have hun:u<Bs^nd u:=qhp u 16 hu
 refine qah (G:=tys) w tysOK q2p func146 Q4N (by simp[qaf]) (by exact qaf _ _ _) ?_
 repeat (refine Ba ?_;first|refine Q2S ?_|refine Bc (q0w _ _ _ _ (qdh Q4N)) ?_)
 refine Ba ?_
 refine Br (α:=Nat) (λi=>i<=nd v) (λi=>nd v-i) (λi=>[(29,xc (i:Int))]) (λi=>[(3,⟨true,32,[(0,32,.agg ⟨limL 32 (dg (mT v u i))⟩)]⟩)]) 0 (xr _) ?_ ?_
 .repeat (refine Ba ?_;first|exact Bd|refine Q2X ?_|refine Q3k ?_|refine Bb (ChunkLe.of (by rw[qyu,qeh (g:=λ_=>0) (λj _=>qe0 j)];rfl)) ?_)
 .intro i hi;by_cases hlt:i<nd v
  .refine Ba ?_;refine Be (by simpa using hlt) ?_;refine Ba ?_;refine Br (α:=Nat) (λj=>j<=nd u) (λj=>nd u-j) (λj=>[(33,xc (j:Int)),(9,.int .u64 ((mC v u i j:Nat):Int))]) (λj=>[(3,⟨true,32,[(0,32,.agg ⟨limL 32 (mA v u i j)⟩)]⟩)]) 0 (xr _) ?_ ?_
   .repeat (refine Ba ?_;first|exact Bd|refine Q2X ?_|refine Q3k ?_|refine Bb (ChunkLe.of (by rw[qeh (f:=mA v u i 0) (g:=dg (mT v u i)) (λk _=>qyt v u i k)])) ?_|refine Bb (by rw[qr4];rfl) ?_)
   .intro j hj;have da:=q21 v i;have db:=q21 u j;have dt:=q21 (mT v u i) (i+j);have dc:=q6p v u i j;by_cases hlt2:j<nd u
    .have hab:dg v i*dg u j<=18446744073709551615*18446744073709551615:=yc Q4L Q4L;refine Ba ?_;refine Be (by simpa using hlt2) ?_;refine Ba ?_;refine N.alt ?_;refine Ba ?_;refine Bi i 1 rfl Q4L ?_;refine Ba ?_;refine Bl _ (qjr (p:=i) Q4L rfl) ?_;refine Ba ?_;refine Bi j 1 rfl Q4L ?_;refine Ba ?_;refine Bl _ (qjr (p:=j) Q4L rfl) ?_;refine Ba ?_;refine Bc (q0x (dg v i) (dg u j) _ da db) ?_;refine Ba ?_;refine Bb ⟨by kernel_rfl,by kernel_rfl⟩ ?_;refine Q2u ?_;refine Bl _ (qlu (p:=i+j) Q4L rfl) ?_;rw[q05];refine Q2B ?_;refine Q2B ?_;refine Q2u ?_;refine N.store ⟨true,32,[(0,32,.agg ⟨limL 32 (mA v u i (j+1))⟩)]⟩ (qf9 (p:=i+j) Q4L rfl (by rw[q9i];exact qyx _ _ _) λk _ hk=>qyv v u i j k hk) ?_;refine Ba ?_;refine N.next (j+1) ⟨by omega,by omega⟩ ?_
     repeat (refine Ba ?_;first|exact Bd|refine Q2X ?_|refine Q3k ?_|refine Q3H ?_|refine Bb (qyy (by rw[qr7];exact qu3 _ _ _ (qoq da db dt dc))) ?_)
    .refine Ba ?_;refine Bf (by simpa using hlt2) ?_;obtain rfl:j=nd u:=by omega
     refine Ba ?_;refine Bi (i+nd u) 1 (by rw[IntWalk.i64_in _ Q4L];omega) Q4L ?_;refine Ba ?_;refine N.store ⟨true,32,[(0,32,.agg ⟨limL 32 (dg (mT v u (i+1)))⟩)]⟩ (qf9 (p:=i+nd u) Q4L rfl (by rw[qr8 v u i (nd u) _ hun,if_neg Q4L,if_pos rfl]) (λk _ hk=>by
      rw[qr8 v u i (nd u) k hun];by_cases h:k<i+nd u
      .rw[if_pos h]
      .rw[if_neg h,if_neg hk,qyw _ _ _ _ _ Q4L])) ?_
     exact Q2v
  .have hm:i=nd v:=by omega
   subst hm;refine Ba ?_;refine Bf Q4X ?_;refine Ba ?_;rw[q07 v u _ hvm];refine N.mk ⟨0,16,0,rfl,rfl,?_⟩;refine Ba ?_;refine N.mk ⟨0,16,0,⟨rfl,by decide⟩,rfl,?_⟩;refine Ba ?_;refine N.mk ⟨16,.agg ⟨limL 16 (dg (v*u))⟩,⟨true,16,[(0,16,.agg ⟨limL 16 (dg (v*u))⟩)]⟩,rfl,?_,qaa _ _,qpp,?_⟩
   .have:=qpo (o:=true) (n:=32) (m:=16) (p:=0) (f:=dg (v*u)) Q4L;simp only[xj] at this;exact this
   refine Ba ?_;refine Bb ⟨by kernel_rfl,by kernel_rfl⟩ ?_;refine Ba ?_;refine N.mk ⟨16,32,1,rfl,⟨rfl,by decide⟩,?_⟩;refine Ba ?_;refine Br (α:=Nat) (λj=>j<=16) (λj=>16-j) (λj=>[(86,xc (j:Int))]) (λ_=>[]) 0 Q4L ?_ ?_
   .repeat (refine Ba ?_;first|exact Bd|refine Q2X ?_|with_reducible refine Bb (ChunkLe.refl _) ?_ )
   .intro j hj;by_cases hlt3:j<16
    .refine Ba ?_;refine Be Q5o ?_;refine Ba ?_;refine Bi j 1 rfl hlt3 ?_;refine Ba ?_;refine Bl _ (qlu (p:=16+j) Q4L rfl) ?_;refine Ba ?_;have hz:dg (v*u) (16+j)=0:=qip _ _ (xh (xM hvu qbz) (yi qeg Q4L));rw[hz];refine Bf rfl ?_;refine Ba ?_;refine N.next (j+1) ⟨by omega,by omega⟩ ?_;exact Q0S
    .refine Ba ?_;refine Bf Q5o ?_;repeat (refine Ba ?_;first|refine Q2S ?_|refine Bc (cMade _ _ _ hvu) ?_)
     rfl
open Go Go.RowKit Sx
abbrev wz(z:Int):Value:=.agg ⟨wiL (decide (z<0)) false z.natAbs⟩
theorem qac(z:Int):qaj (wz z)=true:=qaf _ _ _
theorem qag(z:Int):qaq (wz z)=true:=qaf _ _ _
theorem qu4(a b:Int):((decide (a<0) != decide (b<0))&&decide (a.natAbs*b.natAbs≠0))=decide (a*b<0):=by
 by_cases h0:a=0
 .subst h0;simp
 by_cases h1:b=0
 .subst h1;simp
 have hne:a.natAbs*b.natAbs≠0:=Nat.mul_ne_zero Q4L Q4L;rw[xg hne,Bool.and_true];rcases Int.lt_or_gt_of_ne h0 with ha|ha<;>rcases Int.lt_or_gt_of_ne h1 with hb|hb
 .have:=Int.mul_pos_of_neg_of_neg ha hb;rw[xg ha,xg hb,xl Q4L];rfl
 .have:=Int.mul_neg_of_neg_of_pos ha hb;rw[xg ha,xl (by omega:¬ b<0),xg this];rfl
 .have:=Int.mul_neg_of_pos_of_neg ha hb;rw[xl (by omega:¬ a<0),xg hb,xg this];rfl
 .have:=Int.mul_pos ha hb;rw[xl (by omega:¬ a<0),xl (by omega:¬ b<0),xl Q4L];rfl
theorem cMulz(a b:Int)(h:Hp)(ha:a.natAbs<Bs^16)(hb:b.natAbs<Bs^16)(hab:(a*b).natAbs<Top):qae prog 146 [wz a,wz b] h (wz (a*b)) [] []:=
 qan Q5F (qag _) (call146 _) λw=>by
  have:=q9j (decide (a<0)) (decide (b<0)) a.natAbs b.natAbs ha hb (by rwa[<-y2]) w;rw[qu4,<-y2] at this;exact this
theorem cOfz(n:Int)(h:Hp)(h0 : -9223372036854775808<=n)(h1:n<9223372036854775808):qae prog 111 [xc n] h (wz n) [] []:=cOf n h h0 h1
theorem qyz(a b:Nat)(h:Hp)(ha:a<Bs^16)(hb0:0<b)(hb:b<18446744073709551616):qae prog 269 [.agg ⟨limL 16 (dg a)⟩,.agg ⟨limL 16 (dg b)⟩] h (.tuple #[.agg ⟨limL 16 (dg (a / b))⟩,.agg ⟨limL 16 (dg (a%b))⟩]) [] []:=
 qan (by simp[qad]) (by simp[qaq,qad]) (call269 _) λw=>qiq a b ha hb0 hb (λi w hi=>by
  have hs:=quv a b i hb0;have hr:rm a b (i+1)<b:=xA _ hb0;have hd:=q21 a i;have e1:rm a b (i+1)*18446744073709551616+dg a i=a / Bs^(i+1)%b*18446744073709551616+dg a i:=rfl;rcases Nat.eq_zero_or_pos (rm a b (i+1)) with h0|h0
  .have:=qop (dg a i) b hd hb0 hb w;rw[h0,Nat.zero_mul,xj] at e1;rw[<-e1] at hs;rw[hs.1,hs.2] at this;rw[h0];exact this
  .have:=qu2 (rm a b (i+1)) (dg a i) b h0 hr hd hb w;unfold d64q d64r at this;rw[e1,hs.1,hs.2] at this;exact this) w
theorem qr9{h:Hp}{i v:Nat}{o:Bool}(hi:h[i]?=some (some ⟨o,16,[(0,16,.agg ⟨limL 16 (dg v)⟩)]⟩)):Has h i 0 v:=
 ⟨_,hi,nlr _,λj hj=>by
  refine Q1b ?_;simp only[cellIn];rw[show 0+j-0=j by omega];exact qd0 hj⟩
theorem qu5:limL 16 (dg 1)=[.int .u64 1,.int .u64 0,.int .u64 0,.int .u64 0,.int .u64 0,.int .u64 0,.int .u64 0,.int .u64 0,.int .u64 0,.int .u64 0,.int .u64 0,.int .u64 0,.int .u64 0,.int .u64 0,.int .u64 0,.int .u64 0]:=by
 rw[qeh (g:=λj=>if j=0 then 1 else 0) (λj _=>qcs 1 Q4P j)];rfl
theorem qy0{h:Hp}{i:Nat}{o:Bool}(hi:h[i]?=some (some ⟨o,16,[(0,16,.agg ⟨[.int .u64 1,.int .u64 0,.int .u64 0,.int .u64 0,.int .u64 0,.int .u64 0,.int .u64 0,.int .u64 0,.int .u64 0,.int .u64 0,.int .u64 0,.int .u64 0,.int .u64 0,.int .u64 0,.int .u64 0,.int .u64 0]⟩)]⟩)):Has h i 0 1:=by
 rw[<-qu5] at hi;exact qr9 hi
theorem ja0(i f v j g u:Nat)(h:Hp)(h1:Has h i f v)(h2:Has h j g u):qae prog 193 [.pointer (some ⟨i,f,some 0⟩),.pointer (some ⟨j,g,some 0⟩)] h (.tuple #[.agg ⟨limL 16 (dg (v+u))⟩,.int .u64 (cry v u 16)]) [] [i,j]:=
 qfp [i,j] (by simp[qaq,qad];rfl) (call193) λρ w hc=>qru (ρ i).1 ((ρ i).2+f) v (ρ j).1 ((ρ j).2+g) u w (h1.digs Q4X hc) (h2.digs Q4X hc)
theorem q9k(i f v:Nat)(h:Hp)(h1:Has h i f v):qae prog 221 [.pointer (some ⟨i,f,some 0⟩)] h (xc (bl v)) [] [i]:=
 qfp [i] rfl (call221) λρ w hc=>(qgv (ρ i).1 ((ρ i).2+f) v w (h1.digs Q4X hc)).mono Q5n
theorem qpq:prog.eqGuardType prog.depth 137=false:=by kernel_rfl
theorem qjs(op:BinOp)(x y:Operand)(u:Nat)(hu:u<Bs^16)(neg:Bool)(hop:op=if neg then .neq else .eql):BinIs prog op 137 x y (.agg ⟨limL 16 (dg u)⟩) (.agg #[.int .u64 0,.int .u64 0,.int .u64 0,.int .u64 0,.int .u64 0,.int .u64 0,.int .u64 0,.int .u64 0,.int .u64 0,.int .u64 0,.int .u64 0,.int .u64 0,.int .u64 0,.int .u64 0,.int .u64 0,.int .u64 0]) (.bool (if neg then !decide (u=0) else decide (u=0))):=by
 have he:=qpm u hu;refine⟨qad _ _,rfl,by cases neg<;>rfl,λw=>?_⟩;have hg:∀op,(eqGuard op 137 x y (.agg ⟨limL 16 (dg u)⟩) (.agg #[.int .u64 0,.int .u64 0,.int .u64 0,.int .u64 0,.int .u64 0,.int .u64 0,.int .u64 0,.int .u64 0,.int .u64 0,.int .u64 0,.int .u64 0,.int .u64 0,.int .u64 0,.int .u64 0,.int .u64 0,.int .u64 0])).run prog w=.ok () w:=λop=>by
  cases op<;>simp[eqGuard,Sem.run_bind,run_program,qpq]
 subst hop;cases neg
 .simp only[Sem.run_bind,hg,Result.andThen_ok,if_false,xE];show(do pure (.bool (<-Op.equal 137 (.agg ⟨limL 16 (dg u)⟩) (.agg #[.int .u64 0,.int .u64 0,.int .u64 0,.int .u64 0,.int .u64 0,.int .u64 0,.int .u64 0,.int .u64 0,.int .u64 0,.int .u64 0,.int .u64 0,.int .u64 0,.int .u64 0,.int .u64 0,.int .u64 0,.int .u64 0]))):Sem Value).run prog w=_;exact Q0W
 .simp only[Sem.run_bind,hg,Result.andThen_ok,if_true];show(do pure (.bool (!(<-Op.equal 137 (.agg ⟨limL 16 (dg u)⟩) (.agg #[.int .u64 0,.int .u64 0,.int .u64 0,.int .u64 0,.int .u64 0,.int .u64 0,.int .u64 0,.int .u64 0,.int .u64 0,.int .u64 0,.int .u64 0,.int .u64 0,.int .u64 0,.int .u64 0,.int .u64 0,.int .u64 0])))):Sem Value).run prog w=_;exact Q0W
theorem q8n{n:Nat}(h:n<18446744073709551616):n<Bs^16:=xh h (yU Q4P Bs)
theorem q9l(z:Int)(hz:z.natAbs<Top)(w:World):xa 153 #[wz z] w (wz (-z)):=by
 refine qah (G:=tys) w tysOK q2p func153 Q4N Q4O Q4M ?_;repeat' (refine Ba ?_;first|refine Q2S ?_|with_reducible refine Bc (cMade _ _ _ hz) ?_|fail)
 all_goals
  simp only[wz,Value.agg.injEq,Array.mk.injEq,Int.natAbs_neg]
  congr 1
  by_cases h:z<0
  .rw[xg h,xl (by omega:¬ -z<0)];rfl
  .by_cases h0:z=0
   .subst h0;rfl
   .rw[xl h,xg (by omega : -z<0),xg (by omega:z.natAbs≠0)];rfl
theorem jbe(z:Int)(h:Hp)(hz:z.natAbs<Top):qae prog 153 [wz z] h (wz (-z)) [] []:=
 qan Q5F (qag _) (call153 _) (q9l z hz)
end Go.Proofs.YtggfpcfkbilkmaaGreatDoor
