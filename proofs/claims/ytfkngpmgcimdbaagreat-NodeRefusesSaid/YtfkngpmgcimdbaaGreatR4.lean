/-
  The walk of Hear.
-/
import Derived.Test.YtfkngpmgcimdbaaGreatRows
import Derived.Laws.Rows
import Derived.StillTailTactics
import Derived.Laws.CopyOwn
import Derived.Shelf.Small.Bits
import Derived.Shelf.Strconv.Itoa0
import Derived.Shelf.Bits.Mul64
import Derived.Laws.Externs
import Derived.Shelf.Spec.BitsCarry
import Derived.WalkKit
import Derived.Test.YtfkngpmgcimdbaaGreatProg
import Derived.BigQuiet
import Derived.Deep.QuietTactic
import Derived.Deep.RegionHeld3
import Derived.Lib.EndianBits
import Derived.IntWalk
import Derived.Test.YtfkngpmgcimdbaaGreatR3
set_option linter.unusedVariables false
set_option linter.unusedSimpArgs false
set_option maxRecDepth 100000
set_option maxHeartbeats 20000000
theorem Go.Proofs.ym:type_of% @Nat.mul_le_mul:=@Nat.mul_le_mul
theorem Go.Proofs.xU:type_of% @Nat.div_div_eq_div_mul:=@Nat.div_div_eq_div_mul
theorem Go.Proofs.yn:type_of% @Nat.pow_succ:=@Nat.pow_succ
theorem Go.Proofs.xK:type_of% @Nat.div_eq_of_lt:=@Nat.div_eq_of_lt
theorem Go.Proofs.yo:type_of% @Nat.mod_one:=@Nat.mod_one
theorem Go.Proofs.yK:type_of% @Nat.mul_add_div:=@Nat.mul_add_div
theorem Go.Proofs.xV:type_of% @Nat.mul_le_mul_right:=@Nat.mul_le_mul_right
theorem Go.Proofs.zj:type_of% @Nat.mul_add_mod:=@Nat.mul_add_mod
theorem Go.Proofs.yd:type_of% @Nat.pow_pos:=@Nat.pow_pos
theorem Go.Proofs.yL:type_of% @Int.eq_ofNat_of_zero_le:=@Int.eq_ofNat_of_zero_le
theorem Go.Proofs.yS:type_of% @Nat.div_one:=@Nat.div_one
theorem Go.Proofs.yT:type_of% @Nat.le_div_iff_mul_le:=@Nat.le_div_iff_mul_le
theorem Go.Proofs.xW:type_of% @Nat.pow_le_pow_right:=@Nat.pow_le_pow_right
theorem Go.Proofs.zz:type_of% @Nat.two_pow_add_eq_or_of_lt:=@Nat.two_pow_add_eq_or_of_lt
theorem Go.Proofs.yz:type_of% @Nat.div_le_self:=@Nat.div_le_self
theorem Go.Proofs.yM:type_of% @Nat.mul_le_mul_left:=@Nat.mul_le_mul_left
theorem Go.Proofs.zv:type_of% @Nat.mul_div_cancel:=@Nat.mul_div_cancel
theorem Go.Proofs.yN:type_of% @Nat.mul_lt_mul_of_pos_right:=@Nat.mul_lt_mul_of_pos_right
theorem Go.Proofs.yH:type_of% @Nat.mul_add:=@Nat.mul_add
theorem Go.Proofs.y9:type_of% @Nat.mul_lt_mul'':=@Nat.mul_lt_mul''
open Go.Proofs.Tryz
namespace Go.Proofs
section
variable{Z Y:Prop}
theorem Q01(h:Z:=by
 have G:=Knuth.first (u:=v) (d:=d0) y1a y1b y0h d0h Q9u;have hq1:=G.le;have hq2:=G.sum;have hr1:=xo v (show 0<y1 by omega);have f8:(v:Int).tdiv y1=((v / y1:Nat):Int):=rfl;have f8':(v:Int) / y1=((v / y1:Nat):Int):=rfl;generalize v / y1=q0 at *;generalize v%y1=r0 at *;have hqy:((q0*y1:Nat):Int)=(q0:Int)*(y1:Int):=yh _ _;have f9:IntKind.u64.wrap ((q0:Int)*(y1:Int))=((q0*y1:Nat):Int):=by rw[xk,<-hqy];omega
 have f10:IntKind.u64.wrap ((v:Int)-((q0*y1:Nat):Int))=(r0:Int):=by rw[xk];omega
 have f11:IntKind.u64.wrap (q0:Int)=(q0:Int):=by rw[xk];simp only[Knuth.h] at hq1;omega
 generalize hqq:q0*y1=qy at *;clear hqy hqq hq2
 go_wp2_with fail
 clear f8 f8' f9 f10 f11 a1 a2 a3 a4 e1 e2 e3 e5;have hr2':r0<4294967296:=by omega
 have HG':=Lib.hid G;clear G hq1 hr1 HG hr2 HH HS;have hr2:=hr2';have HG:=HG';clear hr2' HG'
 go_loopw [16,18] (λa b wr=>wr=w/\∃q r:Nat,b=.int .u64 q/\a=.int .u64 r/\r<4294967296/\Hid (Knuth.Guess y1 y0 v d0 q r)) (λa b _=>(intOf b).toNat)
 case atStart=>exact⟨rfl,_,_,rfl,rfl,hr2,HG⟩
 case round=>
  clear HG hr2
  obtain⟨e0,q,r,rfl,rfl,hr2,HG⟩:=hrel
  have e0':=e0.symm
  clear e0
  subst e0'
  have hu':v<y1*Knuth.h+y0:=by have:=HE.out.1;show v<y1*4294967296+y0;omega
  have hq1:q<=4294967297:=HG.out.le
  obtain⟨m,hm⟩:∃m:Nat,q*y0=m:=⟨_,rfl⟩
  have hm1:m<=4294967297*4294967295:=by rw[<-hm];exact ym hq1 Q8E
  have e1:IntKind.u64.wrap ((q:Int)*(y0:Int))=(m:Int):=by
   rw[<-yh,hm,xk];omega
  obtain⟨k0,hk0⟩:∃k:Nat,4294967296*r=k:=⟨_,rfl⟩
  have e2:IntKind.u64.wrap (4294967296*(r:Int))=(k0:Int):=by rw[xk];omega
  obtain⟨k,hk⟩:∃k:Nat,k0+d0=k:=⟨_,rfl⟩
  have e3:IntKind.u64.wrap ((k0:Int)+(d0:Int))=(k:Int):=by rw[xk];omega
  have hkk:Knuth.h*r+d0=k:=by simp only[Knuth.h];omega
  have hdn:Knuth.h<=q\/k<m->0<q/\Knuth.Guess y1 y0 v d0 (q-1) (r+y1):=λht=>Knuth.down d0h hu' HG.out (by rw[hkk,hm];exact ht)
  have hst:q<Knuth.h->m<=k->q=(v*Knuth.h+d0) / (y1*Knuth.h+y0):=λh1 h2=>Knuth.stop d0h hu' HG.out h1 (by rw[hkk,hm];exact h2)
  obtain⟨r',hr'⟩:∃r',r+y1=r':=⟨_,rfl⟩
  have e5:IntKind.u64.wrap ((r:Int)+(y1:Int))=(r':Int):=by rw[xk];omega
  have hr3:r'<18446744073709551616:=by omega
  rw[hr'] at hdn
  have HH:=Lib.hid hdn
  have HS:=Lib.hid hst
  have hq64:(q:Int)<18446744073709551616:=by omega
  clear hm hk0 hk hkk hdn hst hm1 hr'
  by_cases hA:4294967296<=q
  .have HT:Hid (Knuth.h<=q\/k<m):=.inl hA;have t1:decide ((q:Int)>=4294967296)=true:=xf Q8E;have t1':(4294967296:Int)<=(q:Int):=by omega
   clear hA;exact Q11
  .by_cases hB:k<m
   .have HT:Hid (Knuth.h<=q\/k<m):=.inr hB;have t1:¬ (4294967296:Int)<=(q:Int):=by omega
    have t2:(k:Int)<(m:Int):=by omega
    clear hA hB;exact Q11
   .have HF:=Lib.hid (HS.out Q9x Q8E);have t1:¬ (4294967296:Int)<=(q:Int):=by omega
    have t2:¬ (k:Int)<(m:Int):=by omega
    clear hA hB hq1;have hdq:(v*4294967296+d0) / Y=q:=by rw[HE.out.1];exact HF.out.symm
    have hq0:q<4294967296:=by rw[<-hdq,HE.out.1];exact Knuth.digit_lt (y1:=y1) (y0:=y0) d0h Q9u
    have bE:=xu (v*4294967296+d0) Y;have bQ:(v*4294967296+d0) / Y=q:=hdq;rw[bQ] at bE;have bL:=xo (v*4294967296+d0) (show 0<Y by omega);obtain⟨R,RE⟩:∃z,(v*4294967296+d0)%Y=z:=⟨_,rfl⟩;rw[RE] at bE bL;obtain⟨bC,bCE⟩:∃c,q*Y%18446744073709551616=c:=⟨_,rfl⟩;have b3:IntKind.u64.wrap ((q:Int)*(Y:Int))=(bC:Int):=by rw[<-yh,xk];omega
    rw[xm Y] at bE;obtain⟨bA,bAE⟩:∃c,v*4294967296%18446744073709551616=c:=⟨_,rfl⟩;have b1:IntKind.u64.wrap ((v:Int)*4294967296)=(bA:Int):=by rw[xk];omega
    obtain⟨bB,bBE⟩:∃c,(bA+d0)%18446744073709551616=c:=⟨_,rfl⟩;have b2:IntKind.u64.wrap ((bA:Int)+(d0:Int))=(bB:Int):=by rw[xk];omega
    have b4:IntKind.u64.wrap ((bB:Int)-(bC:Int))=(R:Int):=by
     rw[xk];generalize q*Y=P at *;omega
    have HR0':=Lib.hid RE;clear bE bCE bAE bBE RE;obtain⟨Q1,hQ1⟩:∃c:Nat,qa*4294967296=c:=⟨_,rfl⟩;have c1:IntKind.u64.wrap ((qa:Int)*4294967296)=(Q1:Int):=by rw[xk];omega
    obtain⟨Q,hQ⟩:∃c:Nat,Q1+q=c:=⟨_,rfl⟩;have c2:IntKind.u64.wrap ((Q1:Int)+(q:Int))=(Q:Int):=by rw[xk];omega
    have HR:Hid (Q=d64q hi lo y/\R / 2^s=d64r hi lo y):=by
     show Q=(hi*18446744073709551616+lo) / y/\R / 2^s=(hi*18446744073709551616+lo)%y;have e2:=Knuth.two u d1 d0 Y Q8E;have el:=HE.out.2;have eN:u*18446744073709551616+l=u*Knuth.h*Knuth.h+d1*Knuth.h+d0:=Knuth.join u l d1 d0 el;rw[<-eN] at e2;rw[<-hbk.1,<-hbk.2,e2.1,e2.2];have x1:(u*Knuth.h+d1) / Y=qa:=HD1.out;have x2:(u*Knuth.h+d1)%Y=v:=Hv.out;have x3:(v*Knuth.h+d0) / Y=q:=hdq;have x4:(v*Knuth.h+d0)%Y=R:=HR0'.out;rw[x1,x2,x3,x4];refine⟨?_,rfl⟩;show Q=qa*4294967296+q;rw[<-hQ,<-hQ1]
    exact Q37):Z:=h
theorem Q0R(h:Z:=by ·exact Q3z):Z:=h
theorem Q11(h:Z:=by
 obtain⟨h0q,hG2⟩:=HH.out (HT.out);obtain⟨q',hq'⟩:∃q',q-1=q':=⟨_,rfl⟩;rw[hq'] at hG2;have HG2:=Lib.hid hG2;have e4:IntKind.u64.wrap ((q:Int)-1)=(q':Int):=by rw[xk];omega
 have HQ:=Lib.hid (show q=q'+1 by omega);have hq2:q'<=4294967296:=by omega
 clear hG2 hq' h0q hq1;by_cases hbr:(4294967296:Int)<=(r':Int)
 .have HF:=Lib.hid (Knuth.stop' y0h d0h hu' HG2.out hq2 Q9x);clear hq2;have hdq:(v*4294967296+d0) / Y=q':=by rw[HE.out.1];exact HF.out.symm
  have hq0:q'<4294967296:=by rw[<-hdq,HE.out.1];exact Knuth.digit_lt (y1:=y1) (y0:=y0) d0h Q9u
  have bE:=xu (v*4294967296+d0) Y;have bQ:(v*4294967296+d0) / Y=q':=hdq;rw[bQ] at bE;have bL:=xo (v*4294967296+d0) (show 0<Y by omega);obtain⟨R,RE⟩:∃z,(v*4294967296+d0)%Y=z:=⟨_,rfl⟩;rw[RE] at bE bL;obtain⟨bC,bCE⟩:∃c,q'*Y%18446744073709551616=c:=⟨_,rfl⟩;have b3:IntKind.u64.wrap ((q':Int)*(Y:Int))=(bC:Int):=by rw[<-yh,xk];omega
  rw[xm Y] at bE;obtain⟨bA,bAE⟩:∃c,v*4294967296%18446744073709551616=c:=⟨_,rfl⟩;have b1:IntKind.u64.wrap ((v:Int)*4294967296)=(bA:Int):=by rw[xk];omega
  obtain⟨bB,bBE⟩:∃c,(bA+d0)%18446744073709551616=c:=⟨_,rfl⟩;have b2:IntKind.u64.wrap ((bA:Int)+(d0:Int))=(bB:Int):=by rw[xk];omega
  have b4:IntKind.u64.wrap ((bB:Int)-(bC:Int))=(R:Int):=by
   rw[xk];generalize q'*Y=P at *;omega
  have HR0':=Lib.hid RE;clear bE bCE bAE bBE RE;obtain⟨Q1,hQ1⟩:∃c:Nat,qa*4294967296=c:=⟨_,rfl⟩;have c1:IntKind.u64.wrap ((qa:Int)*4294967296)=(Q1:Int):=by rw[xk];omega
  obtain⟨Q,hQ⟩:∃c:Nat,Q1+q'=c:=⟨_,rfl⟩;have c2:IntKind.u64.wrap ((Q1:Int)+(q':Int))=(Q:Int):=by rw[xk];omega
  have HR:Hid (Q=d64q hi lo y/\R / 2^s=d64r hi lo y):=by
   show Q=(hi*18446744073709551616+lo) / y/\R / 2^s=(hi*18446744073709551616+lo)%y;have e2:=Knuth.two u d1 d0 Y Q8E;have el:=HE.out.2;have eN:u*18446744073709551616+l=u*Knuth.h*Knuth.h+d1*Knuth.h+d0:=Knuth.join u l d1 d0 el;rw[<-eN] at e2;rw[<-hbk.1,<-hbk.2,e2.1,e2.2];have x1:(u*Knuth.h+d1) / Y=qa:=HD1.out;have x2:(u*Knuth.h+d1)%Y=v:=Hv.out;have x3:(v*Knuth.h+d0) / Y=q':=hdq;have x4:(v*Knuth.h+d0)%Y=R:=HR0'.out;rw[x1,x2,x3,x4];refine⟨?_,rfl⟩;show Q=qa*4294967296+q';rw[<-hQ,<-hQ1]
  exact Q37
 .exact Q3z):Z:=h
theorem Q12(h:Z:=by
 obtain⟨h0q,hG2⟩:=HH.out (HT.out);obtain⟨q',hq'⟩:∃q',q-1=q':=⟨_,rfl⟩;rw[hq'] at hG2;have HG2:=Lib.hid hG2;have e4:IntKind.u64.wrap ((q:Int)-1)=(q':Int):=by rw[xk];omega
 have HQ:=Lib.hid (show q=q'+1 by omega);have hq2:q'<=4294967296:=by omega
 clear hG2 hq' h0q hq1;by_cases hbr:(4294967296:Int)<=(r':Int)
 .have HF:=Lib.hid (Knuth.stop' y0h d1h hu' HG2.out hq2 Q9x);clear hq2;have hdq1:(u*4294967296+d1) / Y=q':=by rw[HE.out.1];exact HF.out.symm
  have hq1h:q'<4294967296:=by rw[<-hdq1,HE.out.1];exact Knuth.digit_lt (y1:=y1) (y0:=y0) d1h hu'
  have HD1:=Lib.hid hdq1;have aE:=xu (u*4294967296+d1) Y;have aQ:(u*4294967296+d1) / Y=q':=hdq1;rw[aQ] at aE;have aL:=xo (u*4294967296+d1) (show 0<Y by omega);obtain⟨v,vE⟩:∃z,(u*4294967296+d1)%Y=z:=⟨_,rfl⟩;rw[vE] at aE aL;obtain⟨aC,aCE⟩:∃c,q'*Y%18446744073709551616=c:=⟨_,rfl⟩;have a3:IntKind.u64.wrap ((q':Int)*(Y:Int))=(aC:Int):=by rw[<-yh,xk];omega
  rw[xm Y] at aE;obtain⟨aA,aAE⟩:∃c,u*4294967296%18446744073709551616=c:=⟨_,rfl⟩;have a1:IntKind.u64.wrap ((u:Int)*4294967296)=(aA:Int):=by rw[xk];omega
  obtain⟨aB,aBE⟩:∃c,(aA+d1)%18446744073709551616=c:=⟨_,rfl⟩;have a2:IntKind.u64.wrap ((aA:Int)+(d1:Int))=(aB:Int):=by rw[xk];omega
  have a4:IntKind.u64.wrap ((aB:Int)-(aC:Int))=(v:Int):=by
   rw[xk];generalize q'*Y=P at *;omega
  have Hv:=Lib.hid vE;clear aE aCE aAE aBE vE;have hvY:v<Y:=aL;clear aQ hdq1 aL HF;obtain⟨qa,rfl⟩:∃c,c=q':=⟨_,rfl⟩;exact Q01
 exact Q0R):Z:=h
theorem Q1i(h:Z:=by
 go_wp2_with (first|(refine qn7 (ty:=122) rfl ?_;refine wpList_load_row ?_ 122 _ rfl (w.heap.size+1) rfl _ (sz (v / 2^k)) _ _ (hrow') underlying122 rfl Q8Q ?_;(focus rfl))|(refine qd0 (ty:=122) rfl ?_;refine wpList_store_row ?_ 122 _ _ rfl (w.heap.size) (sz (v / 2^k)) rfl rfl _ (_) (hres) Q8Q Q8P (qfo _) ?_;(focus rfl))|fail)
 have hl:=run_loadVar_row (P:=prog) (wr.setRow w.heap.size (sz (v / 2^k))) w.heap.size _ 122 (sz (v / 2^k)) _ _ (hres.row _) underlying122 rfl Q8Q;refine bodyPost_ret (v:=.tuple #[.agg (sz (v / 2^k)),.bool _]) (by simp[results,Tryz.results237,asAddr,hl];rfl) rfl ⟨⟨_,rfl⟩,below_setRow hbel (nlr _) _⟩):Z:=h
theorem Q2E(h:Z:=by
 rw[<-qfe];have:=IsRow.new (w.alloc (.cells (sz 0) 122)) (sz 0) 122;rw[show(w.alloc (.cells (sz 0) 122)).heap.size=w.heap.size+1 by simp] at this;exact this):Z:=h
theorem Q37(h:Z:=by
 clear hQ hQ1 hdq hq0 bQ
 go_wp2_with fail
 exact bodyPost_ret (v:=.tuple #[.int .u64 (Q:Nat),.int .u64 ((R:Int) / 2^s)]) (by simp[results,Tryz.results233]) rfl ⟨by rw[qdh,HR.out.1,HR.out.2],hB⟩):Z:=h
theorem Q3z(h:Z:=by
 clear hq2
 go_wp2_with fail
 go_roundw
 case rel=>exact⟨by first|trivial|rfl,q',r',rfl,rfl,by omega,HG2⟩
 case measure=>have:=HQ.out;simp[intOf];omega):Z:=h
theorem Q3H(h:Z:=by
 go_wp2_with fail
 go_roundw
 case rel=>exact⟨n+1,by omega,by go_num,hrow1,hres1,hbel1⟩
 case measure=>simp[intOf];omega):Z:=h
theorem Q3T(h:Z:=by
 go_wp2_with fail
 go_roundw
 case rel=>exact⟨n,by omega,by go_num,hrow1,hres1,hbel1⟩
 case measure=>simp[intOf]):Z:=h
theorem Q4t(h:Z:=by
 obtain⟨rfl,rfl⟩:=Prod.mk.inj he;exact win _ _ (hk.beg n) hb (by show 1<_;decide)):Z:=h
theorem Q4y(h:Z:=by exact absurd hj (xX j)):Z:=h
theorem Q4F(h:Z:=by
 rw[<-qfe];exact(IsRow.new _ _ _).alloc _):Z:=h
theorem Q59(k:Y)(h:Wr Y->Z:=by intro kQ;(first|refine Bb (qfm _ _) ?_|refine Bb (qcw _ _) ?_|refine Bb (qe6 _ _) ?_|refine Bf (by rw[xf ha.1];rfl) ?_|refine Bf (by rw[xf ha.2.1];rfl) ?_|refine Bf (by rw[xf ha.2.2.1];rfl) ?_|refine Bf (by rw[xf ha.2.2.2];rfl) ?_|fail);exact kQ.o):Z:=h ⟨k⟩
theorem Q5k(k:Y)(h:Wr Y->Z:=by intro kQ;(first|refine jgc jev β.D ⟨boot,false,q⟩ rfl rfl ⟨by omega,by omega⟩ rfl underlying129 underlying3 ?_|refine Bb (qfc [xd 3,xc seq] Q8F rfl ⟨.ptr,.same _,xb⟩ (.inr ⟨_,.head _⟩) (qhu (atX q) Win.zero ⟨true,seq,1⟩ seq 0 3 Q8I ha.2.2.1 rfl _ Q8F)) ?_|fail);exact kQ.o):Z:=h ⟨k⟩
theorem Q5s(k:Y)(h:Wr Y->Z:=by intro kQ;(first|refine qb8 entV (T.E) rfl underlying128 underlying3 type114 rfl (.tuple ⟨[entV Ent.zero,.bool false]⟩) (by rw[hth];rfl) rfl ?_|refine qmp entV (T.E) rfl rfl underlying128 ?_|fail);exact kQ.o):Z:=h ⟨k⟩
theorem Q5v(k:Y)(h:Wr Y->Z:=by intro kQ;(first|refine Bb (qn3 _ _ _ _ _ _ _ ⟨l.boot,l.left,q⟩ hg hb1 hlf 0 1 2 _ Q8F Q8F Q8F Q8I) ?_|refine jgc jev D ⟨boot,false,q⟩ rfl rfl ⟨by omega,by omega⟩ rfl underlying129 underlying3 ?_|refine Bb (qfc [xd 3,xc seq] Q8F rfl ⟨.ptr,.same _,xb⟩ (.inr ⟨_,.head _⟩) (qhu (atX q) l.W W' seq 0 3 hs ha.2.2.1 hw _ Q8F)) ?_|fail);exact kQ.o):Z:=h ⟨k⟩
theorem Q5C(k:Y)(h:Wr Y->Z:=by intro kQ;(first|refine jk8 entV (T.E) rfl rfl rfl underlying128 underlying3 ?_|refine jgc entV (jfr (T.E) (minT (entT (T.E)) (T.E).length).node) ⟨n,boot,now,Ent.zero.has,Ent.zero.x,Ent.zero.y,Ent.zero.a,Ent.zero.b,Ent.zero.d,Ent.zero.when_⟩ rfl rfl ⟨by omega,by omega⟩ rfl underlying128 underlying3 ?_|refine Bw ?_|refine Bx ?_|fail);exact kQ.o):Z:=h ⟨k⟩
theorem Q5N(k:Y)(h:Wr Y->Z:=by intro kQ;(first|refine jgc entV (T.E) ⟨n,boot,now,Ent.zero.has,Ent.zero.x,Ent.zero.y,Ent.zero.a,Ent.zero.b,Ent.zero.d,Ent.zero.when_⟩ rfl rfl ⟨by omega,by omega⟩ rfl underlying128 underlying3 ?_|refine Bw ?_|refine Bx ?_|fail);exact kQ.o):Z:=h ⟨k⟩
theorem Q5R(k:Y)(h:Wr Y->Z:=by intro kQ;(first|refine qb8 entV (dPut T.E n ⟨n,e.boot,e.heard,false,0,0,0,0,0,0⟩) rfl underlying128 underlying3 type114 rfl (.tuple ⟨[entV ⟨n,e.boot,e.heard,false,0,0,0,0,0,0⟩,.bool true]⟩) (by rw[hth];rfl) rfl ?_|refine jgc entV (dPut T.E n ⟨n,e.boot,e.heard,false,0,0,0,0,0,0⟩) ⟨n,boot,now,false,0,0,0,0,0,0⟩ rfl rfl ⟨by omega,by omega⟩ rfl underlying128 underlying3 ?_|refine Bx ?_|fail);exact kQ.o):Z:=h ⟨k⟩
theorem Q6S(k:Y)(h:Wr Y->Z:=by intro kQ;(first|refine Bb (qyl _ true T.most (T.E) (dPut β.D n ⟨boot,false,q⟩) hE hpos 0 1 2 _ Q8F Q8F Q8F Q8I) ?_|fail);exact kQ.o):Z:=h ⟨k⟩
theorem Q78(h:Z:=by first|exact ⟨.ptr rfl,.plain rfl,.plain rfl,.plain rfl,.plain rfl,xb⟩|fail):Z:=h
theorem Q7I(h:Z:=by first|exact results_cell_row Tryz.results154 _ _ (w.heap.size+1) _ _ _ _ rfl (hr2.drew.row _) underlying124 rfl Q99|fail):Z:=h
theorem Q7Z(h:Z:=by first|exact qej Tryz.results215 _ _ _ _ _ _ rfl rfl h2 h3|fail):Z:=h
theorem Q80(h:Z:=by first|exact qt5 _ _ _ _ _ _ _ hn ⟨l.boot,l.left,q0⟩ hg hb1 hls hth 0 1 2 _ Q8F Q8F Q8F Q8I 3 Q8F Q8I|fail):Z:=h
theorem Q82(h:Z:=by first|exact ⟨by rw[hcm];rfl,by repeat (first|with_reducible exact hbel|with_reducible apply Below.drew|with_reducible apply qfw),hsz⟩|fail):Z:=h
theorem Q84(h:Z:=by first|exact results_cell_row Tryz.results98 _ _ w.heap.size _ _ _ _ rfl (hr.row _) underlying124 rfl Q99|fail):Z:=h
theorem Q8i(h:Z:=by first|exact qt4 _ _ _ _ _ _ _ hn hg hth 0 1 2 _ Q8F Q8F Q8F Q8I 3 Q8F Q8I|fail):Z:=h
theorem Q8Q(h:Z:=by rw[sz_size];kernel_rfl):Z:=h
theorem Q96(h:Z:=by rintro e w' ⟨he,rfl⟩;exact⟨he,Below.refl _ _⟩):Z:=h
theorem Q98(h:Z:=by first|(simp;done)|(simp;omega)|omega):Z:=h
theorem Q99(h:Z:=by rw[wi_size];kernel_rfl):Z:=h
theorem Q9l(h:Z:=by show w.heap.size+1+1+1+1≠_;omega):Z:=h
theorem Q9u(h:Z:=by have:=HE.out.1;show v<y1*4294967296+y0;omega):Z:=h
theorem Q9x(h:Z:=by simp only[Knuth.h];omega):Z:=h
theorem Qa0(h:Z:=by rw[zu];simp;omega):Z:=h
end
end Go.Proofs

namespace Go.Proofs.YtfkngpmgcimdbaaGreat
open Go Go.RowKit Sx
variable{W:Win}
theorem jlj{x:Ext}:∀j,j<3->(winX x W).f j=winF W j:=λj hj=>by
 match j,hj with
 | 0,_=>rfl
 | 1,_=>rfl
 | 2,_=>rfl
theorem qqm(W:Win):∀j,j<3->qbi (winF W j)=true:=λj hj=>by
 match j,hj with
 | 0,_=>rfl
 | 1,_=>rfl
 | 2,_=>rfl
theorem qkf{i:Nat}{c d:Chunk}(T:Tbl)(n:Int)(l:jf8)(hl:T.lives n=some l):Opens [⟨i,c,tblC T,d⟩] (λκ:LB×(Nat×Nat)=>dGet κ.1.D n=some ⟨l.boot,l.left,κ.2⟩/\qa5 T.lives ⟨κ.1.D,(κ.2,l.W)::κ.1.F⟩)
  (λκ=>[some (mainC κ.1.F T.most),some (mapC entV T.E),some (mapC jev κ.1.D),some (winX (atX κ.2) l.W)]):=λX ρ w Ti H=>by
 obtain⟨β,hβ,ρ1,hag,hfil,H1⟩:=qav (h:=jf9 T) X ρ w Ti H
 obtain⟨q,hg,hW⟩:=qcy hβ hl
 obtain⟨s,t,hF⟩:=List.append_of_mem hW
 have hp:β.F.Perm ((q,l.W)::(s++t)):=by rw[hF];exact List.perm_middle
 have hsame:SameH (jf9 T β) [some (mainC β.F T.most),some (mapC entV T.E),some (mapC jev β.D),none]:=λk e=>by
  match k with
  | 0=>exact Iff.rfl
  | 1=>exact Iff.rfl
  | 2=>exact Iff.rfl
  | 3=>simp
  | k+4=>simp
 have H2:=H1.same hsame
 obtain⟨ρ2,hag2,H3⟩:=H2.famOut (o:=true) (i:=0) (k:=3) (e:=winX (atX q) l.W) Q8I rfl rfl (Ti.mayX H2 (k:=0) rfl (qnv T) qba) hp rfl rfl jlj (qqm l.W)
 refine⟨(⟨β.D,s++t⟩,q),⟨hg,?_⟩,ρ2,λk hk=>?_,λk hk=>?_,H3⟩
 .refine⟨hβ.1,λm r hr=>?_,hβ.2.2⟩;obtain⟨W,h1,h2⟩:=hβ.2.1 m r hr
  grind
 .have hf:=hfil k hk;rw[hag2 k ((hsame.fil k).2 hf)];exact hag k hk
 .obtain⟨e,he⟩:=hk;have:k=0:=by
   grind[partH]
  subst this;exact⟨_,rfl⟩
def qf8(most:Int)(E:Ez)(n boot now:Int):Ez:=
 dPut (if dGet E n=none/\most<=E.length then jfr E (minT (entT E) E.length).node else E) n { (dGet E n).getD Ent.zero with node:=n,boot:=boot,heard:=now }
def qds(n boot seq now:Int):Prop:=(0<=n/\n<64)/\jgd boot/\jgd seq/\(0<=now/\now<=1000000)
theorem q2i(T:Tbl)(n boot seq now:Int)(ha:¬ qds n boot seq now)(i:Nat)(h:Hp)(hi:h[i]?=some (some (tblC T))):
  qae prog 48 [xd i,xc n,xc boot,xc seq,xc now] h (xc 1) [(i,tblC (T))] []:=by
 refine qaq (G:=tys) (qa5 T.lives) (jf9 T) [⟨i,tblC T,tblC T,tblC (T)⟩] [] [xd 0,xc n,xc boot,xc seq,xc now] tysOK mixed func48 Q8F (call48) ⟨hi,xb⟩ ⟨Q74,xb⟩ Q8K Q77 xb Q78 qav ?_
 intro β hβ
 repeat' (refine Ba ?_;first|refine Q55 ?_|refine Q51 ?_|refine Bb (qfm _ _) ?_|refine Bb (qcw _ _) ?_|refine Bb (qe6 _ _) ?_|with_reducible refine Bi (λhb=>?_) (λhb=>?_)|refine Q5q ?_|refine Q5b ?_|exact Be|fail)
 all_goals
  exfalso
  simp only[yG,yu,yc,xh,xj,qds,jgd] at *
  omega
theorem ja6(T:Tbl)(n boot seq now:Int)(ha:qds n boot seq now)(l:jf8)(hl:T.lives n=some l)(hb1:l.boot=boot)(hlf:l.left=true)(i:Nat)(h:Hp)(hi:h[i]?=some (some (tblC T))):
  qae prog 48 [xd i,xc n,xc boot,xc seq,xc now] h (xc 9) [(i,tblC (T))] []:=by
 refine qaq (G:=tys) (qa5 T.lives) (jf9 T) [⟨i,tblC T,tblC T,tblC (T)⟩] [] [xd 0,xc n,xc boot,xc seq,xc now] tysOK mixed func48 Q8F (call48) ⟨hi,xb⟩ ⟨Q74,xb⟩ Q8K Q77 xb Q78 qav ?_
 intro β hβ
 obtain⟨q,hg,hW⟩:=qcy hβ hl
 repeat' (refine Ba ?_;first|refine Q55 ?_|refine Q51 ?_|refine Q59 ?_|refine Bb (q67 _ _ _ _ _ _ _ ⟨l.boot,l.left,q⟩ hg hb1 hlf 0 1 2 _ Q8F Q8F Q8F Q8I) ?_|refine Bw ?_|refine Q5q ?_|refine Q5b ?_|exact Be|fail)
theorem ja7(T:Tbl)(n boot seq now:Int)(ha:qds n boot seq now)(l:jf8)(hl:T.lives n=some l)(hb1:l.boot≠boot)(hlf:¬ (0<je1 l.boot boot/\je1 l.boot boot<32768))(i:Nat)(h:Hp)(hi:h[i]?=some (some (tblC T))):
  qae prog 48 [xd i,xc n,xc boot,xc seq,xc now] h (xc 9) [(i,tblC (T))] []:=by
 refine qaq (G:=tys) (qa5 T.lives) (jf9 T) [⟨i,tblC T,tblC T,tblC (T)⟩] [] [xd 0,xc n,xc boot,xc seq,xc now] tysOK mixed func48 Q8F (call48) ⟨hi,xb⟩ ⟨Q74,xb⟩ Q8K Q77 xb Q78 qav ?_
 intro β hβ
 obtain⟨q,hg,hW⟩:=qcy hβ hl
 repeat' (refine Ba ?_;first|refine Q55 ?_|refine Q51 ?_|refine Q59 ?_|refine Bb (q68 _ _ _ _ _ _ _ ⟨l.boot,l.left,q⟩ hg hb1 hlf 0 1 2 _ Q8F Q8F Q8F Q8I) ?_|refine Bw ?_|refine Q5q ?_|refine Q5b ?_|exact Be|fail)
variable{w:World}
theorem HOK.sub{X:Ctx}{ρ:Rz}{h h':Hp}(H:HOK X ρ h w)(hb:∀i,i<X.n0->Fil h' i)(hs:∀(i:Nat)(c:Chunk),h'[i]?=some (some c)->h[i]?=some (some c)/\∀j,j<c.n->Safe1 h' (c.f j)):HOK X ρ h' w:=by
 refine⟨H.evo,λi hi=>⟨hb i hi,(H.base i hi).2⟩,λi c hi=>H.lt i c (hs i c hi).1,λi c hi j hj=>?_,λi c hi=>H.own i c (hs i c hi).1,λi c j d hi ho hj=>H.sep i c j d (hs i c hi).1 ho (hs j d hj).1,?_⟩
 .obtain⟨x,hx,hd⟩:=H.cell i c (hs i c hi).1 j hj;exact⟨x,hx,λr hr=>((hs i c hi).2 j hj).inScope ρ r hr |>.trans hd.self⟩
 .obtain⟨S,E⟩:=H.ext;exact E.less λi c hi=>⟨rfl,c,(hs i c hi).1,nlr _,.inr rfl⟩
variable{K:Value->Hp->Prop}
theorem qym{ss:List jeo}{h:Hp}{v:Value}(m:Nat)(hm:ss.length<=m)(hv:qan v=true)(hs:∀(i:Nat)(c:Chunk),(h.take m)[i]?=some (some c)->∀j,j<c.n->Safe1 (h.take m) (c.f j))(kk:N (EndN ss (h.take m) v K)):N (EndN ss h v K):=
 N.mk λX ρ w x T H hd=>by
  have get:∀(i:Nat)(c:Chunk),(h.take m)[i]?=some (some c)->h[i]?=some (some c):=λi c hi=>by
   rw[List.getElem?_take] at hi;split at hi
   .exact hi
   .cases hi
  refine N.out kk X ρ w x T (HOK.sub H (λi hi=>?_) λi c hi=>⟨get i c hi,hs i c hi⟩) (λr _=>by rw[qa0 hv,<-hd.self,qa0 hv]);obtain⟨c,hc⟩:=(H.base i hi).1;exact⟨c,by rw[List.getElem?_take,if_pos (by have:=T.n0;omega)];exact hc⟩
variable{F:List ((Nat×Nat)×Win)}{E:Ez}{D:Fz}{q:Nat×Nat}
theorem jne{most:Int}:∀(i:Nat)(c:Chunk),([some (mainC F most),some (mapC entV E),some (mapC jev D),some (winX (atX q) W)]:Hp)[i]?=some (some c)->∀j,j<c.n->Safe1 [some (mainC F most),some (mapC entV E),some (mapC jev D),some (winX (atX q) W)] (c.f j):=λi c hi j hj=>by
 match i,hi with
 | 0,hi=>
  obtain rfl:_=c:=by simpa using hi
  match j,hj with
  | 0,_=>exact True.intro
  | 1,_=>exact rfl
  | 2,_=>exact rfl
 | 1,hi=>
       obtain rfl:_=c:=by simpa using hi
       exact Q4y
 | 2,hi=>
       obtain rfl:_=c:=by simpa using hi
       exact Q4y
 | 3,hi=>
  obtain rfl:_=c:=by simpa using hi
  match j,hj with
  | 0,_=>exact True.intro
  | 1,_=>exact True.intro
  | 2,_=>exact True.intro
 | k+4,hi=>simp at hi
variable{lv:Int->Option jf8}{n:Int}
theorem qfz{b:Int}{lf:Bool}(h:qa5 lv ⟨D,(q,W)::F⟩)(hg:dGet D n=some ⟨b,lf,q⟩)(hq:∀x∈F,x.1≠q)(W':Win):qa5 (je5 lv n ⟨b,lf,W'⟩) ⟨dPut D n ⟨b,lf,q⟩,(q,W')::F⟩:=by
 obtain⟨h1,h2,h3⟩:=h;have key:∀m s,dGet (dPut D n ⟨b,lf,q⟩) m=some s->dGet D m=some s:=λm s hs=>by
  grind[qbe,qcx]
 refine⟨λm hm=>?_,λm s hs=>?_,λm m' s s' hs hs' e=>h3 m m' s s' (key m s hs) (key m' s' hs') e⟩
 .grind[qbe,qcx,je5]
 grind[je5]
theorem sc4{most:Int}:∀(l:Nat)(d:Chunk),l≠3->([some (mainC F most),some (mapC entV E),some (mapC jev D),some (winX (atX q) W)]:Hp)[l]?=some (some d)->∀j,j<d.n->∀ρ ρ':Rz,(∀l,l≠3->ρ' l=ρ l)->den1 ρ' (d.f j)=den1 ρ (d.f j):=λl d hl hd j hj ρ ρ' ha=>by
 match l,hd with
 | 0,hd=>
  obtain rfl:_=d:=by simpa using hd
  match j,hj with
  | 0,_=>rfl
  | 1,_=>have:=ha 1 Q8I;show den1 ρ' (.map (some 1))=den1 ρ (.map (some 1));simp[den1,den0,this]
  | 2,_=>have:=ha 2 Q8I;show den1 ρ' (.map (some 2))=den1 ρ (.map (some 2));simp[den1,den0,this]
 | 1,hd=>
       obtain rfl:_=d:=by simpa using hd
       exact Q4y
 | 2,hd=>
       obtain rfl:_=d:=by simpa using hd
       exact Q4y
 | 3,_=>exact absurd rfl hl
 | k+4,hd=>simp at hd
theorem qda{i:Nat}{c d:Chunk}{T:Tbl}{h:Hp}{v:Value}(T2:Tbl)(D:Fz)(F:List ((Nat×Nat)×Win))(q:Nat×Nat)(W:Win)(hv:qan v=true)(ht:h.take 4=[some (mainC F T2.most),some (mapC entV T2.E),some (mapC jev D),some (winX (atX q) W)])(hok:(∀x∈F,x.1≠q)->qa5 T2.lives ⟨D,(q,W)::F⟩)
  (kk:K v (qcm (tblC T2) 0 [] [some (mainC ((q,W)::F) T2.most),some (mapC entV T2.E),some (mapC jev D),none] 0)):N (EndN [⟨i,c,tblC T,d⟩] h v K):=by
 refine qym 4 (x7 rfl) hv ?_ ?_
 .rw[ht];exact jne
 rw[ht]
 refine qvr (i:=0) (k:=3) (q:=q) W Q8I Q8I rfl rfl Q8I (x7 rfl) (λ_=>⟨_,rfl,qnv T,qba⟩) rfl rfl (nlr _) jlj (qqm W) sc4 hv λhq=>?_
 refine qck T2 ⟨D,(q,W)::F⟩ 0 1 2 [] (λl _ hl=>by
  obtain rfl:l=0:=by simpa using hl
  exact⟨_,rfl,qnv T,qba⟩) (λi hi=>.inl Q8U) (hok hq) rfl rfl rfl rfl rfl rfl rfl rfl rfl Q8I (λk hk=>by cases hk) jg6 (qbt hv) kk
theorem q2j(T:Tbl)(n boot seq now:Int)(ha:qds n boot seq now)(l:jf8)(hl:T.lives n=some l)(hb1:l.boot=boot)(hlf:l.left=false)(hs:l.W.seen<18446744073709551616)(W':Win)(hw:whear l.W seq=(9,W'))(i:Nat)(h:Hp)(hi:h[i]?=some (some (tblC T))):
  qae prog 48 [xd i,xc n,xc boot,xc seq,xc now] h (xc 9) [(i,tblC (⟨T.most,T.E,je5 T.lives n ⟨boot,false,W'⟩⟩))] []:=by
 refine qaq (G:=tys) (λκ:LB×(Nat×Nat)=>dGet κ.1.D n=some ⟨l.boot,l.left,κ.2⟩/\qa5 T.lives ⟨κ.1.D,(κ.2,l.W)::κ.1.F⟩) (λκ=>[some (mainC κ.1.F T.most),some (mapC entV T.E),some (mapC jev κ.1.D),some (winX (atX κ.2) l.W)]) [⟨i,tblC T,tblC T,tblC (⟨T.most,T.E,je5 T.lives n ⟨boot,false,W'⟩⟩)⟩] [] [xd 0,xc n,xc boot,xc seq,xc now] tysOK mixed func48 Q8F (call48) ⟨hi,xb⟩ ⟨Q74,xb⟩ Q8K Q77 xb Q78 (qkf T n l hl) ?_
 rintro⟨⟨D,F⟩,q⟩ ⟨hg,hβ⟩
 have hg:dGet D n=some ⟨l.boot,l.left,q⟩:=hg
 have hg2:dGet D n=some ⟨boot,false,q⟩:=by rw[hg,hb1,hlf]
 have hn:=ha.1
 repeat' (refine Ba ?_;first|refine Q55 ?_|refine Q51 ?_|refine Q59 ?_|refine Bb (qn3 _ _ _ _ _ _ _ ⟨l.boot,l.left,q⟩ hg hb1 hlf 0 1 2 _ Q8F Q8F Q8F Q8I) ?_|refine jgc jev D ⟨boot,false,q⟩ rfl rfl ⟨by omega,by omega⟩ rfl underlying129 underlying3 ?_|refine Bb (qfc [xd 3,xc seq] Q8F rfl ⟨.ptr,.same _,xb⟩ (.inr ⟨_,.head _⟩) (qhu (atX q) l.W W' seq 9 3 hs ha.2.2.1 hw _ Q8F)) ?_|refine Bw ?_|refine Bx ?_|fail)
 refine Ba ?_
 refine qda ⟨T.most,T.E,je5 T.lives n ⟨boot,false,W'⟩⟩ _ F q W' rfl Q8F (λhq=>qfz hβ hg2 hq W') ?_
 repeat' (refine Ba ?_;first|refine Q55 ?_|refine Q51 ?_|refine Q5b ?_|exact Be|fail)
theorem qdx{b:Int}{lf:Bool}(h:qa5 lv ⟨D,F⟩)(hq:∀x∈F,x.1≠q)(W':Win):qa5 (je5 lv n ⟨b,lf,W'⟩) ⟨dPut D n ⟨b,lf,q⟩,(q,W')::F⟩:=by
 obtain⟨h1,h2,h3⟩:=h;have key:∀m s,dGet (dPut D n ⟨b,lf,q⟩) m=some s->(m=n/\s=⟨b,lf,q⟩)\/(m≠n/\dGet D m=some s):=λm s hs=>by
  grind[qbe,qcx]
 have noq:∀m s,dGet D m=some s->s.q≠q:=λm s hs e=>by
  grind
 exact Q43
theorem qsa(T:Tbl)(n boot seq now:Int)(ha:qds n boot seq now)(l:jf8)(hl:T.lives n=some l)(hb1:l.boot=boot)(hlf:l.left=false)(hs:l.W.seen<18446744073709551616)(W':Win)(hw:whear l.W seq=(0,W'))(e0:Ent)(hth:dGet (T.E) n=some e0)(E':Ez)(hE':E'=dPut (T.E) n ⟨n,boot,now,e0.has,e0.x,e0.y,e0.a,e0.b,e0.d,e0.when_⟩)(i:Nat)(h:Hp)(hi:h[i]?=some (some (tblC T))):
  qae prog 48 [xd i,xc n,xc boot,xc seq,xc now] h (xc 0) [(i,tblC (⟨T.most,E',je5 T.lives n ⟨boot,false,W'⟩⟩))] []:=by
 refine qaq (G:=tys) (λκ:LB×(Nat×Nat)=>dGet κ.1.D n=some ⟨l.boot,l.left,κ.2⟩/\qa5 T.lives ⟨κ.1.D,(κ.2,l.W)::κ.1.F⟩) (λκ=>[some (mainC κ.1.F T.most),some (mapC entV T.E),some (mapC jev κ.1.D),some (winX (atX κ.2) l.W)]) [⟨i,tblC T,tblC T,tblC (⟨T.most,E',je5 T.lives n ⟨boot,false,W'⟩⟩)⟩] [] [xd 0,xc n,xc boot,xc seq,xc now] tysOK mixed func48 Q8F (call48) ⟨hi,xb⟩ ⟨Q74,xb⟩ Q8K Q77 xb Q78 (qkf T n l hl) ?_
 rintro⟨⟨D,F⟩,q⟩ ⟨hg,hβ⟩
 have hg:dGet D n=some ⟨l.boot,l.left,q⟩:=hg
 have hg2:dGet D n=some ⟨boot,false,q⟩:=by rw[hg,hb1,hlf]
 have hn:=ha.1
 subst hE'
 repeat' (refine Ba ?_;first|refine Q55 ?_|refine Q51 ?_|refine Q59 ?_|refine Q5v ?_|refine qb8 entV (T.E) rfl underlying128 underlying3 type114 rfl (.tuple ⟨[entV e0,.bool true]⟩) (by rw[hth];rfl) rfl ?_|refine jgc entV (T.E) ⟨n,boot,now,e0.has,e0.x,e0.y,e0.a,e0.b,e0.d,e0.when_⟩ rfl rfl ⟨by omega,by omega⟩ rfl underlying128 underlying3 ?_|refine Bx ?_|fail)
 refine Ba ?_
 refine qda ⟨T.most,_,je5 T.lives n ⟨boot,false,W'⟩⟩ _ F q W' rfl Q8F (λhq=>qfz hβ hg2 hq W') ?_
 repeat' (refine Ba ?_;first|refine Q55 ?_|refine Q51 ?_|refine Q5b ?_|exact Be|fail)
theorem qvy(T:Tbl)(n boot seq now:Int)(ha:qds n boot seq now)(l:jf8)(hl:T.lives n=some l)(hb1:l.boot=boot)(hlf:l.left=false)(hs:l.W.seen<18446744073709551616)(W':Win)(hw:whear l.W seq=(0,W'))(hth:dGet (T.E) n=none)(hrm:(T.E).length<T.most)(E':Ez)(hE':E'=dPut (T.E) n ⟨n,boot,now,Ent.zero.has,Ent.zero.x,Ent.zero.y,Ent.zero.a,Ent.zero.b,Ent.zero.d,Ent.zero.when_⟩)(i:Nat)(h:Hp)(hi:h[i]?=some (some (tblC T))):
  qae prog 48 [xd i,xc n,xc boot,xc seq,xc now] h (xc 0) [(i,tblC (⟨T.most,E',je5 T.lives n ⟨boot,false,W'⟩⟩))] []:=by
 refine qaq (G:=tys) (λκ:LB×(Nat×Nat)=>dGet κ.1.D n=some ⟨l.boot,l.left,κ.2⟩/\qa5 T.lives ⟨κ.1.D,(κ.2,l.W)::κ.1.F⟩) (λκ=>[some (mainC κ.1.F T.most),some (mapC entV T.E),some (mapC jev κ.1.D),some (winX (atX κ.2) l.W)]) [⟨i,tblC T,tblC T,tblC (⟨T.most,E',je5 T.lives n ⟨boot,false,W'⟩⟩)⟩] [] [xd 0,xc n,xc boot,xc seq,xc now] tysOK mixed func48 Q8F (call48) ⟨hi,xb⟩ ⟨Q74,xb⟩ Q8K Q77 xb Q78 (qkf T n l hl) ?_
 rintro⟨⟨D,F⟩,q⟩ ⟨hg,hβ⟩
 have hg:dGet D n=some ⟨l.boot,l.left,q⟩:=hg
 have hg2:dGet D n=some ⟨boot,false,q⟩:=by rw[hg,hb1,hlf]
 have hn:=ha.1
 subst hE'
 repeat' (refine Ba ?_;first|refine Q55 ?_|refine Q51 ?_|refine Q59 ?_|refine Q5v ?_|refine Q5s ?_|refine Q5e ?_|refine Q5N ?_|fail)
 refine Ba ?_
 refine qda ⟨T.most,_,je5 T.lives n ⟨boot,false,W'⟩⟩ _ F q W' rfl Q8F (λhq=>qfz hβ hg2 hq W') ?_
 repeat' (refine Ba ?_;first|refine Q55 ?_|refine Q51 ?_|refine Q5b ?_|exact Be|fail)
theorem qvz(T:Tbl)(n boot seq now:Int)(ha:qds n boot seq now)(l:jf8)(hl:T.lives n=some l)(hb1:l.boot=boot)(hlf:l.left=false)(hs:l.W.seen<18446744073709551616)(W':Win)(hw:whear l.W seq=(0,W'))(hth:dGet (T.E) n=none)(hrm:T.most<=(T.E).length)(hE:(T.E).length<=64)(hpos:0<(T.E).length)(E':Ez)(hE':E'=dPut (jfr (T.E) (minT (entT (T.E)) (T.E).length).node) n ⟨n,boot,now,Ent.zero.has,Ent.zero.x,Ent.zero.y,Ent.zero.a,Ent.zero.b,Ent.zero.d,Ent.zero.when_⟩)(i:Nat)(h:Hp)(hi:h[i]?=some (some (tblC T))):
  qae prog 48 [xd i,xc n,xc boot,xc seq,xc now] h (xc 0) [(i,tblC (⟨T.most,E',je5 T.lives n ⟨boot,false,W'⟩⟩))] []:=by
 refine qaq (G:=tys) (λκ:LB×(Nat×Nat)=>dGet κ.1.D n=some ⟨l.boot,l.left,κ.2⟩/\qa5 T.lives ⟨κ.1.D,(κ.2,l.W)::κ.1.F⟩) (λκ=>[some (mainC κ.1.F T.most),some (mapC entV T.E),some (mapC jev κ.1.D),some (winX (atX κ.2) l.W)]) [⟨i,tblC T,tblC T,tblC (⟨T.most,E',je5 T.lives n ⟨boot,false,W'⟩⟩)⟩] [] [xd 0,xc n,xc boot,xc seq,xc now] tysOK mixed func48 Q8F (call48) ⟨hi,xb⟩ ⟨Q74,xb⟩ Q8K Q77 xb Q78 (qkf T n l hl) ?_
 rintro⟨⟨D,F⟩,q⟩ ⟨hg,hβ⟩
 have hg:dGet D n=some ⟨l.boot,l.left,q⟩:=hg
 have hg2:dGet D n=some ⟨boot,false,q⟩:=by rw[hg,hb1,hlf]
 have hn:=ha.1
 subst hE'
 repeat' (refine Ba ?_;first|refine Q55 ?_|refine Q51 ?_|refine Q59 ?_|refine Q5v ?_|refine Q5s ?_|refine Q5i ?_|refine Bb (qyl _ true T.most (T.E) (dPut D n ⟨boot,false,q⟩) hE hpos 0 1 2 _ Q8F Q8F Q8F Q8I) ?_|refine Q5C ?_|fail)
 refine Ba ?_
 refine qda ⟨T.most,_,je5 T.lives n ⟨boot,false,W'⟩⟩ _ F q W' rfl Q8F (λhq=>qfz hβ hg2 hq W') ?_
 repeat' (refine Ba ?_;first|refine Q55 ?_|refine Q51 ?_|refine Q5b ?_|exact Be|fail)
theorem qqn(T:Tbl)(n boot seq now:Int)(ha:qds n boot seq now)(l:jf8)(hl:T.lives n=some l)(hb1:l.boot≠boot)(hls:0<je1 l.boot boot/\je1 l.boot boot<32768)(e:Ent)(hEn:dGet T.E n=some e)(E':Ez)(hE':E'=dPut (dPut T.E n ⟨n,e.boot,e.heard,false,0,0,0,0,0,0⟩) n ⟨n,boot,now,false,0,0,0,0,0,0⟩)(i:Nat)(h:Hp)(hi:h[i]?=some (some (tblC T))):
  qae prog 48 [xd i,xc n,xc boot,xc seq,xc now] h (xc 0) [(i,tblC (⟨T.most,E',je5 T.lives n ⟨boot,false,⟨true,seq,1⟩⟩⟩))] []:=by
 refine qaq (G:=tys) (qa5 T.lives) (jf9 T) [⟨i,tblC T,tblC T,tblC (⟨T.most,E',je5 T.lives n ⟨boot,false,⟨true,seq,1⟩⟩⟩)⟩] [] [xd 0,xc n,xc boot,xc seq,xc now] tysOK mixed func48 Q8F (call48) ⟨hi,xb⟩ ⟨Q74,xb⟩ Q8K Q77 xb Q78 qav ?_
 intro β hβ
 have hn:=ha.1
 obtain⟨q0,hg,hW⟩:=qcy hβ hl
 have hth:dGet (dPut T.E n ⟨n,e.boot,e.heard,false,0,0,0,0,0,0⟩) n=some ⟨n,e.boot,e.heard,false,0,0,0,0,0,0⟩:=qbe _ _ _
 have hbe:je9 T.E n=dPut T.E n ⟨n,e.boot,e.heard,false,0,0,0,0,0,0⟩:=by unfold je9;rw[hEn]
 subst hE'
 repeat' (refine Ba ?_;first|refine Q55 ?_|refine Q51 ?_|refine Q59 ?_|fail)
 refine Ba ?_
 refine Bh (q2h _ _ _ _ _ _ _ hn ⟨l.boot,l.left,q0⟩ hg hb1 hls e hEn 0 1 2 _ Q8F Q8F Q8F Q8I 3 Q8F Q8I) λv ms hR=>?_
 obtain⟨q,rfl,rfl⟩:=hR
 rw[hbe]
 repeat' (refine Ba ?_;first|refine Q55 ?_|refine Q51 ?_|refine Q5k ?_|refine Q5R ?_|fail)
 refine Ba ?_
 refine qda ⟨T.most,_,je5 T.lives n ⟨boot,false,⟨true,seq,1⟩⟩⟩ _ β.F q ⟨true,seq,1⟩ rfl Q8F (λhq=>qdx hβ hq _) ?_
 repeat' (refine Ba ?_;first|refine Q55 ?_|refine Q51 ?_|refine Q5b ?_|exact Be|fail)
theorem qsb(T:Tbl)(n boot seq now:Int)(ha:qds n boot seq now)(l:jf8)(hl:T.lives n=some l)(hb1:l.boot≠boot)(hls:0<je1 l.boot boot/\je1 l.boot boot<32768)(hth:dGet (T.E) n=none)(hrm:(T.E).length<T.most)(E':Ez)(hE':E'=dPut (T.E) n ⟨n,boot,now,Ent.zero.has,Ent.zero.x,Ent.zero.y,Ent.zero.a,Ent.zero.b,Ent.zero.d,Ent.zero.when_⟩)(i:Nat)(h:Hp)(hi:h[i]?=some (some (tblC T))):
  qae prog 48 [xd i,xc n,xc boot,xc seq,xc now] h (xc 0) [(i,tblC (⟨T.most,E',je5 T.lives n ⟨boot,false,⟨true,seq,1⟩⟩⟩))] []:=by
 refine qaq (G:=tys) (qa5 T.lives) (jf9 T) [⟨i,tblC T,tblC T,tblC (⟨T.most,E',je5 T.lives n ⟨boot,false,⟨true,seq,1⟩⟩⟩)⟩] [] [xd 0,xc n,xc boot,xc seq,xc now] tysOK mixed func48 Q8F (call48) ⟨hi,xb⟩ ⟨Q74,xb⟩ Q8K Q77 xb Q78 qav ?_
 intro β hβ
 have hn:=ha.1
 obtain⟨q0,hg,hW⟩:=qcy hβ hl
 have hbe:je9 T.E n=T.E:=by unfold je9;rw[hth]
 subst hE'
 repeat' (refine Ba ?_;first|refine Q55 ?_|refine Q51 ?_|refine Q59 ?_|fail)
 refine Ba ?_
 refine Bh Q80 λv ms hR=>?_
 obtain⟨q,rfl,rfl⟩:=hR
 rw[hbe]
 repeat' (refine Ba ?_;first|refine Q55 ?_|refine Q51 ?_|refine Q5k ?_|refine Q5s ?_|refine Q5e ?_|refine Q5N ?_|fail)
 refine Ba ?_
 refine qda ⟨T.most,_,je5 T.lives n ⟨boot,false,⟨true,seq,1⟩⟩⟩ _ β.F q ⟨true,seq,1⟩ rfl Q8F (λhq=>qdx hβ hq _) ?_
 repeat' (refine Ba ?_;first|refine Q55 ?_|refine Q51 ?_|refine Q5b ?_|exact Be|fail)
theorem qsc(T:Tbl)(n boot seq now:Int)(ha:qds n boot seq now)(l:jf8)(hl:T.lives n=some l)(hb1:l.boot≠boot)(hls:0<je1 l.boot boot/\je1 l.boot boot<32768)(hth:dGet (T.E) n=none)(hrm:T.most<=(T.E).length)(hE:(T.E).length<=64)(hpos:0<(T.E).length)(E':Ez)(hE':E'=dPut (jfr (T.E) (minT (entT (T.E)) (T.E).length).node) n ⟨n,boot,now,Ent.zero.has,Ent.zero.x,Ent.zero.y,Ent.zero.a,Ent.zero.b,Ent.zero.d,Ent.zero.when_⟩)(i:Nat)(h:Hp)(hi:h[i]?=some (some (tblC T))):
  qae prog 48 [xd i,xc n,xc boot,xc seq,xc now] h (xc 0) [(i,tblC (⟨T.most,E',je5 T.lives n ⟨boot,false,⟨true,seq,1⟩⟩⟩))] []:=by
 refine qaq (G:=tys) (qa5 T.lives) (jf9 T) [⟨i,tblC T,tblC T,tblC (⟨T.most,E',je5 T.lives n ⟨boot,false,⟨true,seq,1⟩⟩⟩)⟩] [] [xd 0,xc n,xc boot,xc seq,xc now] tysOK mixed func48 Q8F (call48) ⟨hi,xb⟩ ⟨Q74,xb⟩ Q8K Q77 xb Q78 qav ?_
 intro β hβ
 have hn:=ha.1
 obtain⟨q0,hg,hW⟩:=qcy hβ hl
 have hbe:je9 T.E n=T.E:=by unfold je9;rw[hth]
 subst hE'
 repeat' (refine Ba ?_;first|refine Q55 ?_|refine Q51 ?_|refine Q59 ?_|fail)
 refine Ba ?_
 refine Bh Q80 λv ms hR=>?_
 obtain⟨q,rfl,rfl⟩:=hR
 rw[hbe]
 repeat' (refine Ba ?_;first|refine Q55 ?_|refine Q51 ?_|refine Q5k ?_|refine Q5s ?_|refine Q5i ?_|refine Q6S ?_|refine Q5C ?_|fail)
 refine Ba ?_
 refine qda ⟨T.most,_,je5 T.lives n ⟨boot,false,⟨true,seq,1⟩⟩⟩ _ β.F q ⟨true,seq,1⟩ rfl Q8F (λhq=>qdx hβ hq _) ?_
 repeat' (refine Ba ?_;first|refine Q55 ?_|refine Q51 ?_|refine Q5b ?_|exact Be|fail)
theorem qqo(T:Tbl)(n boot seq now:Int)(ha:qds n boot seq now)(hl:T.lives n=none)(e:Ent)(hEn:dGet T.E n=some e)(E':Ez)(hE':E'=dPut (dPut T.E n ⟨n,e.boot,e.heard,false,0,0,0,0,0,0⟩) n ⟨n,boot,now,false,0,0,0,0,0,0⟩)(i:Nat)(h:Hp)(hi:h[i]?=some (some (tblC T))):
  qae prog 48 [xd i,xc n,xc boot,xc seq,xc now] h (xc 0) [(i,tblC (⟨T.most,E',je5 T.lives n ⟨boot,false,⟨true,seq,1⟩⟩⟩))] []:=by
 refine qaq (G:=tys) (qa5 T.lives) (jf9 T) [⟨i,tblC T,tblC T,tblC (⟨T.most,E',je5 T.lives n ⟨boot,false,⟨true,seq,1⟩⟩⟩)⟩] [] [xd 0,xc n,xc boot,xc seq,xc now] tysOK mixed func48 Q8F (call48) ⟨hi,xb⟩ ⟨Q74,xb⟩ Q8K Q77 xb Q78 qav ?_
 intro β hβ
 have hn:=ha.1
 have hg:=qe9 hβ hl
 have hth:dGet (dPut T.E n ⟨n,e.boot,e.heard,false,0,0,0,0,0,0⟩) n=some ⟨n,e.boot,e.heard,false,0,0,0,0,0,0⟩:=qbe _ _ _
 have hbe:je9 T.E n=dPut T.E n ⟨n,e.boot,e.heard,false,0,0,0,0,0,0⟩:=by unfold je9;rw[hEn]
 subst hE'
 repeat' (refine Ba ?_;first|refine Q55 ?_|refine Q51 ?_|refine Q59 ?_|fail)
 refine Ba ?_
 refine Bh (q2g _ _ _ _ _ _ _ hn hg e hEn 0 1 2 _ Q8F Q8F Q8F Q8I 3 Q8F Q8I) λv ms hR=>?_
 obtain⟨q,rfl,rfl⟩:=hR
 rw[hbe]
 repeat' (refine Ba ?_;first|refine Q55 ?_|refine Q51 ?_|refine Q5k ?_|refine Q5R ?_|fail)
 refine Ba ?_
 refine qda ⟨T.most,_,je5 T.lives n ⟨boot,false,⟨true,seq,1⟩⟩⟩ _ β.F q ⟨true,seq,1⟩ rfl Q8F (λhq=>qdx hβ hq _) ?_
 repeat' (refine Ba ?_;first|refine Q55 ?_|refine Q51 ?_|refine Q5b ?_|exact Be|fail)
theorem qsd(T:Tbl)(n boot seq now:Int)(ha:qds n boot seq now)(hl:T.lives n=none)(hth:dGet (T.E) n=none)(hrm:(T.E).length<T.most)(E':Ez)(hE':E'=dPut (T.E) n ⟨n,boot,now,Ent.zero.has,Ent.zero.x,Ent.zero.y,Ent.zero.a,Ent.zero.b,Ent.zero.d,Ent.zero.when_⟩)(i:Nat)(h:Hp)(hi:h[i]?=some (some (tblC T))):
  qae prog 48 [xd i,xc n,xc boot,xc seq,xc now] h (xc 0) [(i,tblC (⟨T.most,E',je5 T.lives n ⟨boot,false,⟨true,seq,1⟩⟩⟩))] []:=by
 refine qaq (G:=tys) (qa5 T.lives) (jf9 T) [⟨i,tblC T,tblC T,tblC (⟨T.most,E',je5 T.lives n ⟨boot,false,⟨true,seq,1⟩⟩⟩)⟩] [] [xd 0,xc n,xc boot,xc seq,xc now] tysOK mixed func48 Q8F (call48) ⟨hi,xb⟩ ⟨Q74,xb⟩ Q8K Q77 xb Q78 qav ?_
 intro β hβ
 have hn:=ha.1
 have hg:=qe9 hβ hl
 have hbe:je9 T.E n=T.E:=by unfold je9;rw[hth]
 subst hE'
 repeat' (refine Ba ?_;first|refine Q55 ?_|refine Q51 ?_|refine Q59 ?_|fail)
 refine Ba ?_
 refine Bh Q8i λv ms hR=>?_
 obtain⟨q,rfl,rfl⟩:=hR
 rw[hbe]
 repeat' (refine Ba ?_;first|refine Q55 ?_|refine Q51 ?_|refine Q5k ?_|refine Q5s ?_|refine Q5e ?_|refine Q5N ?_|fail)
 refine Ba ?_
 refine qda ⟨T.most,_,je5 T.lives n ⟨boot,false,⟨true,seq,1⟩⟩⟩ _ β.F q ⟨true,seq,1⟩ rfl Q8F (λhq=>qdx hβ hq _) ?_
 repeat' (refine Ba ?_;first|refine Q55 ?_|refine Q51 ?_|refine Q5b ?_|exact Be|fail)
theorem qse(T:Tbl)(n boot seq now:Int)(ha:qds n boot seq now)(hl:T.lives n=none)(hth:dGet (T.E) n=none)(hrm:T.most<=(T.E).length)(hE:(T.E).length<=64)(hpos:0<(T.E).length)(E':Ez)(hE':E'=dPut (jfr (T.E) (minT (entT (T.E)) (T.E).length).node) n ⟨n,boot,now,Ent.zero.has,Ent.zero.x,Ent.zero.y,Ent.zero.a,Ent.zero.b,Ent.zero.d,Ent.zero.when_⟩)(i:Nat)(h:Hp)(hi:h[i]?=some (some (tblC T))):
  qae prog 48 [xd i,xc n,xc boot,xc seq,xc now] h (xc 0) [(i,tblC (⟨T.most,E',je5 T.lives n ⟨boot,false,⟨true,seq,1⟩⟩⟩))] []:=by
 refine qaq (G:=tys) (qa5 T.lives) (jf9 T) [⟨i,tblC T,tblC T,tblC (⟨T.most,E',je5 T.lives n ⟨boot,false,⟨true,seq,1⟩⟩⟩)⟩] [] [xd 0,xc n,xc boot,xc seq,xc now] tysOK mixed func48 Q8F (call48) ⟨hi,xb⟩ ⟨Q74,xb⟩ Q8K Q77 xb Q78 qav ?_
 intro β hβ
 have hn:=ha.1
 have hg:=qe9 hβ hl
 have hbe:je9 T.E n=T.E:=by unfold je9;rw[hth]
 subst hE'
 repeat' (refine Ba ?_;first|refine Q55 ?_|refine Q51 ?_|refine Q59 ?_|fail)
 refine Ba ?_
 refine Bh Q8i λv ms hR=>?_
 obtain⟨q,rfl,rfl⟩:=hR
 rw[hbe]
 repeat' (refine Ba ?_;first|refine Q55 ?_|refine Q51 ?_|refine Q5k ?_|refine Q5s ?_|refine Q5i ?_|refine Q6S ?_|refine Q5C ?_|fail)
 refine Ba ?_
 refine qda ⟨T.most,_,je5 T.lives n ⟨boot,false,⟨true,seq,1⟩⟩⟩ _ β.F q ⟨true,seq,1⟩ rfl Q8F (λhq=>qdx hβ hq _) ?_
 repeat' (refine Ba ?_;first|refine Q55 ?_|refine Q51 ?_|refine Q5b ?_|exact Be|fail)
open Go Go.RowKit Sx
instance(n boot seq now:Int):Decidable (qds n boot seq now):=by unfold qds;infer_instance
structure TOK(T:Tbl):Prop where
 most:1<=T.most/\T.most<=64
 len:T.E.length<=T.most
 seen:∀n l,T.lives n=some l->l.W.seen<18446744073709551616
def Tbl.win(T:Tbl)(n boot now:Int)(E:Ez)(W:Win):Tbl:=⟨T.most,qf8 T.most E n boot now,je5 T.lives n ⟨boot,false,W⟩⟩
def hearT(T:Tbl)(n boot seq now:Int):Int×Tbl:=
 if qds n boot seq now then
  match T.lives n with
  | none=>(0,T.win n boot now (je9 T.E n) ⟨true,seq,1⟩)
  | some l=>
   if l.boot=boot then
    if l.left=true then (9,T)
    else if (whear l.W seq).1=0 then (0,T.win n boot now T.E (whear l.W seq).2)
    else (9,⟨T.most,T.E,je5 T.lives n ⟨boot,false,(whear l.W seq).2⟩⟩)
   else if 0<je1 l.boot boot/\je1 l.boot boot<32768 then (0,T.win n boot now (je9 T.E n) ⟨true,seq,1⟩)
   else (9,T)
 else (1,T)
theorem qyn(W:Win)(q:Int):(whear W q).1=0\/(whear W q).1=9:=by
 grind[whear]
theorem qmu(W:Win)(q:Int)(h:W.seen<18446744073709551616):(whear W q).2.seen<18446744073709551616:=by
 unfold whear;split
 .simp
 split
 .exact h
 split
 .exact Nat.or_lt_two_pow (n:=64) (xo _ Q8I) Q8I
 split
 .exact h
 .exact Nat.or_lt_two_pow (n:=64) h (qr5 _ _)
theorem qld{α:Type}(D:List (Int×α))(k:Int)(a:α):(dPut D k a).length=if dGet D k=none then D.length+1 else D.length:=by
 grind[dPut]
theorem qv0{α:Type}(D:List (Int×α))(k:Int):(jfr D k).length<=D.length:=List.length_filter_le _ _
theorem qf0{most:Int}{boot now:Int}{e:Ent}(h:dGet E n=some e):qf8 most E n boot now=dPut E n ⟨n,boot,now,e.has,e.x,e.y,e.a,e.b,e.d,e.when_⟩:=by
 grind[qf8]
theorem qha{most:Int}{boot now:Int}(h:dGet E n=none)(hl:(E.length:Int)<most):qf8 most E n boot now=dPut E n ⟨n,boot,now,false,0,0,0,0,0,0⟩:=by
 unfold qf8;rw[if_neg Q8E,h];rfl
theorem qhb{most:Int}{boot now:Int}(h:dGet E n=none)(hl:most<=(E.length:Int)):qf8 most E n boot now=dPut (jfr E (minT (entT E) E.length).node) n ⟨n,boot,now,false,0,0,0,0,0,0⟩:=by
 unfold qf8;rw[if_pos ⟨h,hl⟩,h];rfl
theorem q69(E:Ez)(n:Int):(je9 E n).length=E.length:=by
 grind[je9,qld]
theorem qn4(h:dGet E n=none):je9 E n=E:=by grind[je9]
theorem qn5{e:Ent}(h:dGet E n=some e):je9 E n=dPut E n ⟨n,e.boot,e.heard,false,0,0,0,0,0,0⟩:=by grind[je9]
theorem jnf(T:Tbl)(ok:TOK T)(n boot seq now e:Int)(T':Tbl)(he:hearT T n boot seq now=(e,T'))(i:Nat)(h:Hp)(hi:h[i]?=some (some (tblC T))):
  qae prog 48 [xd i,xc n,xc boot,xc seq,xc now] h (xc e) [(i,tblC T')] []:=by
 obtain⟨m1,m2⟩:=ok.most
 have hlen:=ok.len
 have hl64:T.E.length<=64:=by omega
 unfold hearT at he
 by_cases ha:qds n boot seq now
 .rw[if_pos ha] at he;cases hl:T.lives n with
  | none=>
   rw[hl] at he;obtain⟨rfl,rfl⟩:=Prod.mk.inj he;unfold Tbl.win;cases hE:dGet T.E n with
   | some e0=>rw[qn5 hE];exact qqo T n boot seq now ha hl e0 hE _ (qf0 (qbe _ _ _)) i h hi
   | none=>
    rw[qn4 hE];by_cases hr:(T.E.length:Int)<T.most
    .exact qsd T n boot seq now ha hl hE hr _ (qha hE hr) i h hi
    .exact qse T n boot seq now ha hl hE Q8E hl64 Q8E _ (qhb hE Q8E) i h hi
  | some l=>
   rw[hl] at he;simp only at he;have hs:=ok.seen n l hl;by_cases hb:l.boot=boot
   .rw[if_pos hb] at he;cases hlf:l.left with
    | true=>
     rw[if_pos hlf] at he;obtain⟨rfl,rfl⟩:=Prod.mk.inj he;exact ja6 T n boot seq now ha l hl hb hlf i h hi
    | false=>
     rw[if_neg (by rw[hlf];decide)] at he;obtain⟨e1,W1,hw⟩:∃e1 W1,whear l.W seq=(e1,W1):=⟨_,_,rfl⟩;have herr:=qyn l.W seq;rw[hw] at he herr;simp only at he herr;rcases herr with rfl|rfl
     .rw[if_pos rfl] at he;obtain⟨rfl,rfl⟩:=Prod.mk.inj he;unfold Tbl.win;cases hE:dGet T.E n with
      | some e0=>exact qsa T n boot seq now ha l hl hb hlf hs W1 hw e0 hE _ (qf0 hE) i h hi
      | none=>
       by_cases hr:(T.E.length:Int)<T.most
       .exact qvy T n boot seq now ha l hl hb hlf hs W1 hw hE hr _ (qha hE hr) i h hi
       .exact qvz T n boot seq now ha l hl hb hlf hs W1 hw hE Q8E hl64 Q8E _ (qhb hE Q8E) i h hi
     .rw[if_neg Q8I] at he;obtain⟨rfl,rfl⟩:=Prod.mk.inj he;exact q2j T n boot seq now ha l hl hb hlf hs W1 hw i h hi
   .rw[if_neg hb] at he;by_cases hsd:0<je1 l.boot boot/\je1 l.boot boot<32768
    .rw[if_pos hsd] at he;obtain⟨rfl,rfl⟩:=Prod.mk.inj he;unfold Tbl.win;cases hE:dGet T.E n with
     | some e0=>rw[qn5 hE];exact qqn T n boot seq now ha l hl hb hsd e0 hE _ (qf0 (qbe _ _ _)) i h hi
     | none=>
      rw[qn4 hE];by_cases hr:(T.E.length:Int)<T.most
      .exact qsb T n boot seq now ha l hl hb hsd hE hr _ (qha hE hr) i h hi
      .exact qsc T n boot seq now ha l hl hb hsd hE Q8E hl64 Q8E _ (qhb hE Q8E) i h hi
    .rw[if_neg hsd] at he;obtain⟨rfl,rfl⟩:=Prod.mk.inj he;exact ja7 T n boot seq now ha l hl hb hsd i h hi
 .rw[if_neg ha] at he;obtain⟨rfl,rfl⟩:=Prod.mk.inj he;exact q2i T n boot seq now ha i h hi
structure EOK(E:Ez):Prop where
 nodup:(E.map (·.1)).Nodup
 key:∀k e,dGet E k=some e->e.node=k
variable{k:Int}
theorem qyo{α:Type}{D:List (Int×α)}{a:α}(h:(D.map (·.1)).Nodup):((dPut D k a).map (·.1)).Nodup:=by
 grind[dPut,dGet_none]
theorem qyp{α:Type}{D:List (Int×α)}(h:(D.map (·.1)).Nodup):((jfr D k).map (·.1)).Nodup:=(List.filter_sublist.map _).nodup h
theorem EOK.put(h:EOK E)(e:Ent):EOK (dPut E e.node e):=⟨qyo h.nodup,λk x hx=>by
 by_cases hk:k=e.node
 .grind[qbe]
 .rw[qcx _ _ hk] at hx;exact h.key k x hx⟩
theorem EOK.del(h:EOK E)(n:Int):EOK (jfr E n):=⟨qyp h.nodup,λk x hx=>by
 by_cases hk:k=n
 .grind[qit]
 .rw[qlc _ hk] at hx;exact h.key k x hx⟩
theorem EOK.nil:EOK []:=⟨yy,λk e h=>by simp[dGet] at h⟩
theorem EOK.beg(h:EOK E)(n:Int):EOK (je9 E n):=by
 cases hg:dGet E n with
 | none=>rw[qn4 hg];exact h
 | some e=>rw[qn5 hg];exact h.put ⟨n,e.boot,e.heard,false,0,0,0,0,0,0⟩
theorem qt6(T:Nat->Ent):∀n,1<=n->∃j,j<n/\minT T n=T j
 | 0,h=>absurd h Q8I
 | 1,_=>⟨0,by decide,rfl⟩
 | r+2,_=>by
  obtain⟨j,hj,e⟩:=qt6 T (r+1) Q8E
  grind[qis]
theorem q7a{j:Nat}(h:j<E.length):∃k e,(sortK E)[j]?=some k/\dGet E k=some e/\entT E j=e:=by
 obtain⟨k,hk,e0,he0⟩:=qgg h;obtain⟨e,he⟩:=qir he0
 grind[qla]
theorem q2k(h:EOK E)(hp:0<E.length):∃e,dGet E (minT (entT E) E.length).node=some e/\minT (entT E) E.length=e:=by
 obtain⟨j,hj,e1⟩:=qt6 (entT E) E.length hp;obtain⟨k,e,_,he,e2⟩:=q7a hj;rw[e1,e2,h.key k e he];exact⟨e,he,rfl⟩
theorem q7b{α:Type}{D:List (Int×α)}{a:α}(h:dGet D k=some a):(jfr D k).length<D.length:=by
 have hm:=qqd h
 induction D with
 | nil=>cases hm
 | cons q D ih=>
  grind[jfr,dGet]
theorem q2l{most:Int}(h:EOK E)(n boot now:Int):EOK (qf8 most E n boot now):=by
 unfold qf8;split
 .exact(h.del _).put { (dGet E n).getD Ent.zero with node:=n,boot:=boot,heard:=now }
 .exact h.put { (dGet E n).getD Ent.zero with node:=n,boot:=boot,heard:=now }
theorem qyq{most:Int}(h:EOK E)(n boot now:Int)(hm:1<=most)(hl:(E.length:Int)<=most):((qf8 most E n boot now).length:Int)<=most:=by
 cases hg:dGet E n with
 | some e=>rw[qf0 hg,qld,if_neg (by rw[hg];simp)];exact hl
 | none=>
  by_cases hr:(E.length:Int)<most
  .grind[qha,qld]
  .rw[qhb hg Q8E];obtain⟨e,he,_⟩:=q2k h Q8E;have h1:=q7b he
   grind[qld]
theorem q2m{T T':Tbl}{boot seq now e:Int}(ok:TOK T)(hk:EOK T.E)(he:hearT T n boot seq now=(e,T')):TOK T'/\EOK T'.E/\T'.most=T.most:=by
 obtain⟨m1,m2⟩:=ok.most;have win:∀E W,EOK E->(E.length:Int)<=T.most->W.seen<18446744073709551616->TOK (T.win n boot now E W)/\EOK (T.win n boot now E W).E/\(T.win n boot now E W).most=T.most:=λE W hE hl hW=>by
  refine⟨⟨ok.most,qyq hE n boot now m1 hl,λm l hl'=>?_⟩,q2l hE n boot now,rfl⟩;unfold Tbl.win je5 at hl';simp only at hl';split at hl'
  .grind
  .exact ok.seen m l hl'
 have hb:((je9 T.E n).length:Int)<=T.most:=by rw[q69];exact ok.len
 unfold hearT at he;split at he
 .split at he
  .exact Q4t
  .rename_i l hl;have hs:=ok.seen n l hl;split at he
   .split at he
    .simp_all
    .split at he
     .obtain⟨rfl,rfl⟩:=Prod.mk.inj he;exact win _ _ hk ok.len (qmu _ _ hs)
     .obtain⟨rfl,rfl⟩:=Prod.mk.inj he;refine⟨⟨ok.most,ok.len,λm l' hl'=>?_⟩,hk,rfl⟩;unfold je5 at hl';simp only at hl';split at hl'
      .grind[qmu]
      .exact ok.seen m l' hl'
   .split at he
    .exact Q4t
    simp_all
 simp_all
theorem q5i(most:Int):TOK (Tbl.new most)/\EOK (Tbl.new most).E:=⟨⟨by unfold Tbl.new;simp only;omega,by unfold Tbl.new;simp only[List.length_nil];omega,λn l h=>by cases h⟩,EOK.nil⟩
abbrev Bs:Nat:=18446744073709551616
theorem qbu:0<Bs:=by decide
theorem qb3(n:Nat):0<Bs^n:=by grind
def dg(v j:Nat):Nat:=v / Bs^j%Bs
theorem jeu(v j:Nat):dg v j<18446744073709551616:=xo _ qbu
theorem qjp(j:Nat):dg 0 j=0:=by simp[dg]
theorem qdy(v j:Nat):v / Bs^j=v / Bs^(j+1)*Bs+dg v j:=by
 grind[dg,xU,xu]
theorem qkg(v j:Nat):v%Bs^(j+1)=v%Bs^j+Bs^j*dg v j:=by
 unfold dg;rw[yn,Nat.mod_mul]
theorem qbv(v j:Nat)(h:v<Bs^j):dg v j=0:=by
 grind[dg,xK]
theorem qd4(v n j:Nat)(h:j<n):dg (v%Bs^n) j=dg v j:=by
 unfold dg;obtain⟨k,rfl⟩:∃k,n=j+(k+1):=⟨n-j-1,by omega⟩;rw[x8,Nat.mod_mul_right_div_self,yn,xm (Bs^k),Nat.mod_mul_right_mod]
theorem q2n(n a b:Nat)(ha:a<Bs^n)(hb:b<Bs^n)(h:∀j,j<n->dg a j=dg b j):a=b:=by
 have key:∀m,m<=n->a%Bs^m=b%Bs^m:=by
  intro m
  induction m with
  | zero=>intro _;simp[yo]
  | succ m ih=>intro hm;rw[qkg,qkg,ih Q8E,h m Q8E]
 grind[xv]
def cry(a b i:Nat):Nat:=(a%Bs^i+b%Bs^i) / Bs^i
theorem qde(a b:Nat):cry a b 0=0:=by grind[cry]
theorem qdt(a b i:Nat):cry a b i<=1:=by
 unfold cry;have h1:=xo a (qb3 i);have h2:=xo b (qb3 i);have:(a%Bs^i+b%Bs^i) / Bs^i<2:=(xQ (qb3 i)).2 Q8E;omega
theorem qkh(a b i:Nat):dg a i+dg b i+cry a b i=dg (a+b) i+Bs*cry a b (i+1):=by
 have e1:∀m,a+b=(a / Bs^m+b / Bs^m+cry a b m)*Bs^m+(a%Bs^m+b%Bs^m)%Bs^m:=by
  grind[xu,cry]
 have e2:∀m,(a+b) / Bs^m=a / Bs^m+b / Bs^m+cry a b m:=by
  intro m;have h:=e1 m;have hr:=xo (a%Bs^m+b%Bs^m) (qb3 m)
  grind[xm,yK,xK]
 grind[qdy]
theorem qjq(a b i:Nat):(dg a i+dg b i+cry a b i)%18446744073709551616=dg (a+b) i:=by
 grind[qkh,jeu]
theorem qhc(a b i:Nat):(dg a i+dg b i+cry a b i) / 18446744073709551616=cry a b (i+1):=by
 grind[qkh,jeu]
theorem q7c(x d b B:Nat)(hd:d<B)(hb:0<b):(x%b*B+d) / b=(x*B+d) / b%B/\(x%b*B+d)%b=(x*B+d)%b:=by
 have hq:=xu x b;have hr:=xo x hb;have e:x*B+d=b*(x / b*B)+(x%b*B+d):=by
  grind
 have hlt:(x%b*B+d) / b<B:=by
  rw[xQ hb];have:(x%b+1)*B<=b*B:=xV _ hr
  grind
 constructor
 .rw[e,yK hb,xm (x / b) B,zj,xv hlt]
 simp_all
theorem q2o(a b i:Nat)(hb:0<b):(a / Bs^(i+1)%b*18446744073709551616+dg a i) / b=dg (a / b) i/\(a / Bs^(i+1)%b*18446744073709551616+dg a i)%b=a / Bs^i%b:=by
 have h:=q7c (a / Bs^(i+1)) (dg a i) b Bs (jeu a i) hb
 grind[qdy,dg,xU]
theorem qn6(a i k:Nat)(hk:k<64):dg (a / 2^k) i=dg a i / 2^k+dg a (i+1)*2^(64-k)%18446744073709551616:=by
 have e:Bs=2^k*2^(64-k):=by rw[<-x8,show k+(64-k)=64 by omega]
 have s:=qdy a i;have s1:=qdy a (i+1);have hd:=jeu a i;unfold dg at s1 s hd ⊢;rw[xU,xm (2^k),<-xU];generalize a / Bs^i%Bs=d0 at *;generalize a / Bs^(i+1)%Bs=d1 at *;generalize a / Bs^(i+1)=x at *;generalize a / Bs^(i+1+1)=y at *;rw[s,s1];have hp:0<2^k:=yd Q8I;have hp2:0<2^(64-k):=yd Q8I;generalize 2^k=p at *;generalize 2^(64-k)=q at *;show _=d0 / p+d1*q%Bs;have hd':d0<Bs:=hd;clear s s1 hd hk;generalize Bs=B at *;subst e;rw[show(y*(p*q)+d1)*(p*q)+d0=p*((y*(p*q)+d1)*q)+d0 by rw[Nat.mul_left_comm],yK hp];have hq:d0 / p<q:=by rw[xQ hp,xm];exact hd'
 have h2:(y*(p*q)+d1)*q+d0 / p=(p*q)*(y*q)+(d1*q+d0 / p):=by
  grind
 rw[h2,zj];have h3:=xu (d1*q) (p*q);have h4:d1*q%(p*q)=d1%p*q:=by rw[Nat.mul_mod_mul_right]
 have h5:d1%p*q+d0 / p<p*q:=by
  have:=xo d1 hp;have:(d1%p+1)*q<=p*q:=xV _ this
  grind
 rw[show d1*q+d0 / p=p*q*(d1*q / (p*q))+(d1*q%(p*q)+d0 / p) by omega,zj,h4,xv h5];omega
open Go.RowKit
def lim(n:Nat)(f:Nat->Nat):Array Value:=((List.range n).map λj=>Value.int .u64 ((f j:Nat):Int)).toArray
@[simp] theorem lim_size(n:Nat)(f:Nat->Nat):(lim n f).size=n:=by simp[lim]
theorem qfd(n:Nat)(f:Nat->Nat)(j:Nat)(h:j<n):(lim n f)[j]?=some (.int .u64 ((f j:Nat):Int)):=by
 simp[lim,h]
theorem q7d(n:Nat)(f:Nat->Nat):(lim n f).all (·.oneCell')=true:=by
 rw[Array.all_eq_true_iff_forall_mem];intro x hx;simp only[lim,List.mem_toArray,xE] at hx;obtain⟨j,_,rfl⟩:=hx;rfl
theorem qle(n:Nat)(f g:Nat->Nat)(i:Nat)(v:Int)(hi:i<n)(hv:v=((g i:Nat):Int))(h:∀j,j<n->j≠i->f j=g j):(lim n f).setIfInBounds i (.int .u64 v)=lim n g:=by
 apply zn;intro j;rw[zu];by_cases hj:j<n
 .rw[qfd n g j hj];split
  .simp_all
  grind[qfd]
 simp_all
theorem qei(n:Nat)(f g:Nat->Nat)(h:∀j,j<n->f j=g j):lim n f=lim n g:=by
 grind[lim]
def sz(v:Nat):Array Value:=lim 16 (dg v)
@[simp] theorem sz_size(v:Nat):(sz v).size=16:=lim_size _ _
theorem qmv(v j:Nat)(h:j<16):(sz v)[j]?=some (.int .u64 ((dg v j:Nat):Int)):=qfd _ _ _ h
theorem qfo(v:Nat):(sz v).all (·.oneCell')=true:=q7d _ _
theorem qfe:sz 0 = #[.int .u64 0,.int .u64 0,.int .u64 0,.int .u64 0,.int .u64 0,.int .u64 0,.int .u64 0,.int .u64 0,.int .u64 0,.int .u64 0,.int .u64 0,.int .u64 0,.int .u64 0,.int .u64 0,.int .u64 0,.int .u64 0]:=by
 rfl
theorem qhd(v:Nat)(h:v<18446744073709551616)(j:Nat):dg v j=if j=0 then v else 0:=by
 grind[dg,qbv,Nat.le_self_pow]
theorem q2p(v:Nat)(h:v<18446744073709551616):sz v = #[.int .u64 v,.int .u64 0,.int .u64 0,.int .u64 0,.int .u64 0,.int .u64 0,.int .u64 0,.int .u64 0,.int .u64 0,.int .u64 0,.int .u64 0,.int .u64 0,.int .u64 0,.int .u64 0,.int .u64 0,.int .u64 0]:=by
 unfold sz;rw[qei 16 (dg v) (λj=>if j=0 then v else 0) (λj _=>qhd v h j)];rfl
def wi(neg over:Bool)(v:Nat):Array Value:=#[.bool neg,.bool over]++sz v
@[simp] theorem wi_size(neg over:Bool)(v:Nat):(wi neg over v).size=18:=by simp[wi]
theorem jek(neg over:Bool)(v:Nat):(wi neg over v)[0]?=some (.bool neg):=by simp[wi,Array.getElem?_append]
theorem qqp(neg over:Bool)(v:Nat):(wi neg over v).all (·.oneCell')=true:=by
 unfold wi;rw[Array.all_append,qfo];simp[Value.oneCell']
def IsRow(w:World)(g:Nat)(t:TypeId)(cs:Array Value):Prop:=w.heap[g]?=some (.cells cs t (0,0))
section
variable{w:World}{g:Nat}{t:TypeId}{cs:Array Value}
theorem IsRow.lt(h:IsRow w g t cs):g<w.heap.size:=(xY.1 h).1
theorem IsRow.cell(h:IsRow w g t cs){j:Nat}{v:Value}(hv:cs[j]?=some v):w.cell? ⟨g,j,none⟩=some v:=by
 rw[cell_of_row w g j cs t _ h];exact hv
theorem IsRow.frozen(h:IsRow w g t cs)(j:Nat):w.frozen? ⟨g,j,none⟩=false:=by
 simp[World.frozen?,show w.heap[g]?=some (.cells cs t (0,0)) from h]
theorem IsRow.alloc(h:IsRow w g t cs)(o:Obj):IsRow (w.alloc o) g t cs:=by
 have:=h.lt;unfold IsRow World.alloc at *
 grind
theorem IsRow.drew(h:IsRow w g t cs):IsRow w.drew g t cs:=h
theorem IsRow.drewN(h:IsRow w g t cs)(n:Nat):IsRow (w.drewN n) g t cs:=h
theorem IsRow.new(w:World)(cs:Array Value)(t:TypeId):IsRow (w.alloc (.cells cs t)) w.heap.size t cs:=by
 unfold IsRow World.alloc;simp
theorem IsRow.set(h:IsRow w g t cs)(i:Nat)(v:Value):IsRow (w.setCell ⟨g,i,none⟩ v) g t (cs.setIfInBounds i v):=by
 unfold IsRow;rw[setCell_eq_setRow w g i cs t _ v h];exact setRow_heap w g cs _ t _ h
theorem IsRow.setOther(h:IsRow w g t cs)(a:Addr)(v:Value)(hne:a.block≠g):IsRow (w.setCell a v) g t cs:=by
 unfold IsRow World.setCell at *
 grind
theorem IsRow.row(h:IsRow w g t cs)(ds:Array Value):IsRow (w.setRow g ds) g t ds:=setRow_heap w g cs ds t _ h
theorem IsRow.rowOther(h:IsRow w g t cs)(k:Nat)(ds:Array Value)(hne:g≠k):IsRow (w.setRow k ds) g t cs:=(setRow_other w k g ds hne).trans h
theorem IsRow.below{w':World}{B:Nat}(h:IsRow w g t cs)(hb:Below B w w')(hg:g<B):IsRow w' g t cs:=(hb.block g hg).trans h
end
def Digs(w:World)(g o v:Nat):Prop:=∀j,j<16->w.cell? ⟨g,o+j,none⟩=some (.int .u64 ((dg v j:Nat):Int))
theorem Digs.of_sz{g:Nat}{t:TypeId}{v:Nat}(h:IsRow w g t (sz v)):Digs w g 0 v:=λj hj=>by
 rw[xr];exact h.cell (qmv v j hj)
theorem Digs.lt{g o v:Nat}(h:Digs w g o v):g<w.heap.size:=World.block_lt_of_cell? _ _ (h 0 Q8E)
theorem Digs.below{w':World}{g o v B:Nat}(h:Digs w g o v)(hb:Below B w w')(hg:g<B):Digs w' g o v:=λj hj=>(hb.cell (p:=⟨g,o+j,none⟩) hg).trans (h j hj)
variable{P:Program}{ops:Array Oper}{Q:Exit->Act->World->Prop}
theorem qf1{rest:List Oper}{o:Oper}{a:Act}(hg:o.guard=none)(t:TypeId)(i:Nat)(x:Operand)(ho:o.op=.build t #[(i,x)])
  (v:Value) (hv:a.eval x=v) (cs:Array Value) (hb:P.built t [(i,v)]=some cs)
  (h:wpList P ops Q rest (a.put o.dst (.agg cs)) w):wpList P ops Q (o::rest) a w:=by
 subst hv
 have e:((#[(i,x)]:Array (Nat×Operand)).map fun(i,x)=>(i,a.eval x)).toList=[(i,a.eval x)]:=by simp
 refine wpList_build hg t _ ho ?_ ?_
 .simp_all
 .simp_all
theorem qiu{rest:List Oper}{o:Oper}{a:Act}(hg:o.guard=none)(t:TypeId)(i j:Nat)(x y:Operand)(ho:o.op=.build t #[(i,x),(j,y)])
  (u v:Value) (hu:a.eval x=u) (hv:a.eval y=v) (cs:Array Value) (hb:P.built t [(i,u),(j,v)]=some cs)
  (h:wpList P ops Q rest (a.put o.dst (.agg cs)) w):wpList P ops Q (o::rest) a w:=by
 subst hu hv
 have e:((#[(i,x),(j,y)]:Array (Nat×Operand)).map fun(i,x)=>(i,a.eval x)).toList=[(i,a.eval x),(j,a.eval y)]:=by simp
 refine wpList_build hg t _ ho ?_ ?_
 .simp_all
 .simp_all
theorem Digs.cells{g o v:Nat}(h:Digs w g o v):∀j u,(sz v)[j]?=some u->w.cell? ⟨g,o+j,none⟩=some u:=λj u hu=>by
 have hj:j<16:=by
  rcases xP j 16 with h|h
  .exact h
  simp_all
 rw[qmv v j hj] at hu;rw[h j hj];exact hu
section
variable{P:Program}{ops:Array Oper}{rest:List Oper}{o:Oper}{a:Act}{w:World}{Q:Act->Prop}
theorem qd9(hw:Region.wanted o (yielded ops a.tmps)=true)(ty:TypeId)(x:Operand)(ho:o.op=.load ty x)
  (g:Nat) (hx:a.eval x=.pointer (some ⟨g,0,none⟩)) (t:TypeId) (cs:Array Value) (fr:Nat×Nat) (d:TypeDesc) (hg:w.heap[g]?=some (.cells cs t fr))
  (hu:P.underlying ty=some d) (hd:(match d with|.struct _|.array _ _=>true|_=>false)=true) (hi:(P.info? ty).map (·.size)=some cs.size)
  (h:wpStill P ops w Q rest (a.put o.dst (.agg cs))):wpStill P ops w Q (o::rest) a:=by
 unfold wpStill
 rw[if_pos hw]
 unfold Oper.still execOp
 simp only[ho,hx,Instr.loadAt,Instr.sureAddr,Sem.run_bind,Sem.run_pure,Result.andThen_ok,run_loadVar_row w g t ty cs fr d hg hu hd hi]
 exact⟨rfl,h⟩
theorem qff(hw:Region.wanted o (yielded ops a.tmps)=true)(t:TypeId)(ho:o.op=.build t #[])
  (cs:Array Value) (hb:P.built t []=some cs)
  (h:wpStill P ops w Q rest (a.put o.dst (.agg cs))):wpStill P ops w Q (o::rest) a:=by
 have e:((#[]:Array (Nat×Operand)).map fun(i,x)=>(i,a.eval x)).toList=[]:=by simp
 unfold wpStill
 rw[if_pos hw]
 unfold Oper.still execOp
 simp only[ho,Sem.run_bind,run_build w t _ cs (e▸hb),Result.andThen_ok]
 exact⟨rfl,h⟩
theorem qfg(hw:Region.wanted o (yielded ops a.tmps)=true)(t:TypeId)(i j:Nat)(x y:Operand)(ho:o.op=.build t #[(i,x),(j,y)])
  (u v:Value) (hu:a.eval x=u) (hv:a.eval y=v) (cs:Array Value) (hb:P.built t [(i,u),(j,v)]=some cs)
  (h:wpStill P ops w Q rest (a.put o.dst (.agg cs))):wpStill P ops w Q (o::rest) a:=by
 subst hu hv
 have e:((#[(i,x),(j,y)]:Array (Nat×Operand)).map fun(i,x)=>(i,a.eval x)).toList=[(i,a.eval x),(j,a.eval y)]:=by simp
 unfold wpStill
 rw[if_pos hw]
 unfold Oper.still execOp
 simp only[ho,Sem.run_bind,run_build w t _ cs (e▸hb),Result.andThen_ok]
 exact⟨rfl,h⟩
end
section
variable{P:Program}{ops:Array Oper}{rest:List Oper}{o:Oper}{a:Act}{w:World}
variable{ty:TypeId}
theorem qsf{Q:Act->Prop}{x:Operand}(ho:o.op=.load ty x)(h:wpStill P ops w Q (o::rest) a):wpStill P ops w Q (o::rest) a:=h
variable{ps:Array (Nat×Operand)}
theorem qhe{Q:Act->Prop}(ho:o.op=.build ty ps)(h:wpStill P ops w Q (o::rest) a):wpStill P ops w Q (o::rest) a:=h
variable{Q:Exit->Act->World->Prop}
theorem qn7{x:Operand}(ho:o.op=.load ty x)(h:wpList P ops Q (o::rest) a w):wpList P ops Q (o::rest) a w:=h
theorem qiv(ho:o.op=.build ty ps)(h:wpList P ops Q (o::rest) a w):wpList P ops Q (o::rest) a w:=h
theorem qd0{x y:Operand}(ho:o.op=.store ty x y)(h:wpList P ops Q (o::rest) a w):wpList P ops Q (o::rest) a w:=h
end
section
variable{P:Program}{ops:Array Oper}{o:Oper}{a:Act}{w:World}{K:Act->World->Prop}{Q:Exit->Act->World->Prop}{E:Prop}
theorem qdp(hg:o.guard=none)(ty:TypeId)(x:Operand)(ho:o.op=.load ty x)
  (g:Nat) (hx:a.eval x=.pointer (some ⟨g,0,none⟩)) (t:TypeId) (cs:Array Value) (fr:Nat×Nat) (d:TypeDesc) (hr:w.heap[g]?=some (.cells cs t fr))
  (hu:P.underlying ty=some d) (hd:(match d with|.struct _|.array _ _=>true|_=>false)=true) (hi:(P.info? ty).map (·.size)=some cs.size)
  (hK:K (a.put o.dst (.agg cs)) w):if Region.wanted o (yielded ops a.tmps)=true then Oper.wp P o a w K Q else E:=by
 have hw:Region.wanted o (yielded ops a.tmps)=true:=by simp[Region.wanted,hg]
 rw[if_pos hw]
 exact wp_load_row ty x ho g hx t cs fr d hr hu hd hi hK
theorem qcq(hg:o.guard=none)(ty:TypeId)(x y:Operand)(ho:o.op=.store ty x y)
  (g:Nat) (cells:Array Value) (hx:a.eval x=.pointer (some ⟨g,0,none⟩)) (hy:a.eval y=.agg cells)
  (t:TypeId) (old:Array Value) (hr:w.heap[g]?=some (.cells old t (0,0))) (hi:(P.info? ty).map (·.size)=some cells.size)
  (hold:old.size=cells.size) (h1:cells.all (·.oneCell')=true)
  (hK:K (a.put o.dst undef) (w.setRow g cells)):if Region.wanted o (yielded ops a.tmps)=true then Oper.wp P o a w K Q else E:=by
 have hw:Region.wanted o (yielded ops a.tmps)=true:=by simp[Region.wanted,hg]
 rw[if_pos hw]
 exact wp_store_row ty x y ho g cells hx hy t old hr hi hold h1 hK
end
theorem qej{fn:Func}{p q:Tmp}{t1 t2:TypeId}(h:fn.results = #[.cell p t1,.cell q t2])(tmps:Array Value)(w:World)(A1 A2:Addr)(v1 v2:Value)
  (hp:tmps.getD p undef=.pointer (some A1)) (hq:tmps.getD q undef=.pointer (some A2)) (h1:(loadVar t1 A1).run P w=.ok v1 w) (h2:(loadVar t2 A2).run P w=.ok v2 w) :
  (results fn tmps).run P w=.ok (.tuple #[v1,v2]) w:=by
 have hp':tmps[p]?.getD undef=.pointer (some A1):=by simpa using hp
 have hq':tmps[q]?.getD undef=.pointer (some A2):=by simpa using hq
 simp[results,h,hp',hq',asAddr,h1,h2]
end Go.Proofs.YtfkngpmgcimdbaaGreat


namespace Go.Proofs
open Go.Shelf
def Tryz.lays134_ren:Go.Shelf.Ren:=⟨fun|134=>234|129=>185|n=>n,fun|53=>58|3=>3|4=>4|46=>150|5=>5|9=>9|n=>n,fun|n=>n⟩
theorem Tryz.lays134:Go.Proofs.Lays.n134 prog Tryz.lays134_ren:={
 mixed:=by kernel_rfl
 f129:=func185.trans (congrArg some Q8J)
 f134:=func234.trans (congrArg some Q8J)
 t3:=underlying3
 a3:=Tryz.isAgg3
 z3:=Tryz.sizeOf3
 v3:=Tryz.zeroValue3
 t4:=underlying4
 a4:=Tryz.isAgg4
 z4:=Tryz.sizeOf4
 v4:=Tryz.zeroValue4
 t5:=underlying5
 a5:=Tryz.isAgg5
 z5:=Tryz.sizeOf5
 v5:=Tryz.zeroValue5
 t9:=underlying9
 a9:=Tryz.isAgg9
 z9:=Tryz.sizeOf9
 v9:=Tryz.zeroValue9
 t46:=underlying150
 a46:=Tryz.isAgg150
 z46:=Tryz.sizeOf150
 v46:=Tryz.zeroValue150
 t53:=underlying58
 a53:=Tryz.isAgg58
 z53:=Tryz.sizeOf58
 v53:=Tryz.zeroValue58 }
theorem Tryz.bits_LeadingZeros64(x:Int)(w:World)(h0:0<=x)(h1:x<=18446744073709551615):
  Calls prog 234 #[.int .u64 x] w λe w'=>e=.returned (xc (64-(Lib.bitLen x.toNat:Int)))/\w'=w:=Any.bits_LeadingZeros64 Tryz.lays134 x w h0 h1
def Tryz.lays129_ren:Go.Shelf.Ren:=⟨fun|129=>185|n=>n,fun|53=>58|3=>3|4=>4|46=>150|5=>5|9=>9|n=>n,fun|n=>n⟩
theorem Tryz.lays129:Go.Proofs.Lays.n129 prog Tryz.lays129_ren:={
 mixed:=by kernel_rfl
 f129:=func185.trans (congrArg some Q8J)
 t3:=underlying3
 a3:=Tryz.isAgg3
 z3:=Tryz.sizeOf3
 v3:=Tryz.zeroValue3
 t4:=underlying4
 a4:=Tryz.isAgg4
 z4:=Tryz.sizeOf4
 v4:=Tryz.zeroValue4
 t5:=underlying5
 a5:=Tryz.isAgg5
 z5:=Tryz.sizeOf5
 v5:=Tryz.zeroValue5
 t9:=underlying9
 a9:=Tryz.isAgg9
 z9:=Tryz.sizeOf9
 v9:=Tryz.zeroValue9
 t46:=underlying150
 a46:=Tryz.isAgg150
 z46:=Tryz.sizeOf150
 v46:=Tryz.zeroValue150
 t53:=underlying58
 a53:=Tryz.isAgg58
 z53:=Tryz.sizeOf58
 v53:=Tryz.zeroValue58 }
theorem Tryz.bits_Len64(x:Int)(w:World)(h0:0<=x)(h1:x<=18446744073709551615):
  Calls prog 185 #[.int .u64 x] w λe w'=>e=.returned (xc (Lib.bitLen x.toNat))/\w'=w:=Any.bits_Len64 Tryz.lays129 x w h0 h1
def Tryz.lays264_ren:Go.Shelf.Ren:=⟨fun|264=>158|n=>n,fun|53=>58|46=>150|n=>n,fun|n=>n⟩
theorem Tryz.lays264:Go.Proofs.Lays.n264 prog Tryz.lays264_ren:={
 mixed:=by kernel_rfl
 f264:=func158.trans (congrArg some Q8J)
 t46:=underlying150
 a46:=Tryz.isAgg150
 z46:=Tryz.sizeOf150
 v46:=Tryz.zeroValue150
 t53:=underlying58
 a53:=Tryz.isAgg58
 z53:=Tryz.sizeOf58
 v53:=Tryz.zeroValue58 }
open Go.RowKit Go.Lib in
theorem Tryz.bits_Mul64(x y:Nat)(hx:x<18446744073709551616)(hy:y<18446744073709551616)(w:World):
  Calls prog 158 #[.int .u64 x,.int .u64 y] w λe w'=>e=.returned (.tuple #[.int .u64 ((x*y / 18446744073709551616:Nat):Int),.int .u64 ((x*y%18446744073709551616:Nat):Int)])/\w'=w:=Any.bits_Mul64 Tryz.lays264 x y hx hy w
namespace YtfkngpmgcimdbaaGreat
open Go.RowKit
theorem add64(x y c:Int)(hx:0<=x)(hx':x<18446744073709551616)(hy:0<=y)(hy':y<18446744073709551616)(hc0:0<=c)(hc:c<=1)(w:World):(callFunc 159 #[.int .u64 x,.int .u64 y,.int .u64 c]).run prog w =
  .ok (.value (.tuple #[.int .u64 ((x+y+c)%18446744073709551616),.int .u64 ((x+y+c) / 18446744073709551616)])) w:=by
 obtain⟨x,rfl⟩:=yL hx
 obtain⟨y,rfl⟩:=yL hy
 obtain⟨c,rfl⟩:=yL hc0
 rw[run_callFunc_extern func159 Q8J Q8J Q8J (e:=add64Entry) Q8J,run_add64 x y c Q8E Q8E Q8E Q8E]
 simp only[Result.andThen]
end YtfkngpmgcimdbaaGreat
end Go.Proofs


namespace Go.Proofs.YtfkngpmgcimdbaaGreat
open Go.RowKit
def ndTo(v:Nat):Nat->Nat
 | 0=>0
 | n+1=>if dg v n=0 then ndTo v n else n+1
def nd(v:Nat):Nat:=ndTo v 16
theorem q7e(v n:Nat):ndTo v n<=n:=by
 induction n with
 | zero=>exact nlr _
 | succ n ih=>unfold ndTo;split<;>omega
theorem jg7(v:Nat):nd v<=16:=q7e v 16
theorem qiw(g o v:Nat)(w:World)(hd:Digs w g o v):
  Calls prog 157 #[.pointer (some ⟨g,o,none⟩)] w λe w'=>e=.returned (xc (nd v))/\w=w':=by
 have HD:=Lib.hid hd
 clear hd
 have hle:=jg7 v
 go_enter func157,Tryz.ntmps157
 go_wp2
 go_loopw [3] (λi wr=>wr=w/\∃n:Nat,n<=16/\i=xc n/\ndTo v n=nd v) (λi _=>(intOf i).toNat)
 case atStart=>exact⟨rfl,16,nlr _,rfl,rfl⟩
 case round=>
  obtain⟨rfl,n,hn,rfl,hq⟩:=hrel
  match n,hn,hq with
  | 0,hn,hq=>
   have hq':nd v=0:=hq.symm
   go_wp2_with fail
   go_ret
   exact⟨by rw[hq'];rfl,rfl⟩
  | n+1,hn,hq=>
   have hc:=HD.out n Q8E;have e1:((n+1:Nat):Int)-1=n:=by omega
   by_cases hz:dg v n=0
   .have hq2:ndTo v n=nd v:=by rw[<-hq];rw[ndTo,if_pos hz]
    rw[hz] at hc
    go_wp2_with fail
    go_roundw
    case rel=>exact⟨by first|trivial|rfl,n,by omega,by go_num,hq2⟩
    case measure=>simp[intOf]
   .have hq2:nd v=n+1:=by rw[<-hq];rw[ndTo,if_neg hz]
    go_wp2_with fail
    go_ret
    exact⟨by rw[hq2];rfl,rfl⟩
def lb(n:Nat):Nat:=Lib.bitLen n
theorem jj9(n:Nat)(h:n<18446744073709551616):lb n<=64:=Lib.bitLen_le n 64 (nlr _) h
theorem qyr(n:Nat)(hn:n<18446744073709551616)(w:World):Calls prog 185 #[.int .u64 n] w λe w'=>e=.returned (xc (lb n))/\w=w':=
 (Tryz.bits_Len64 n w Q8E Q8E).mono λe w' h=>⟨h.1,h.2.symm⟩
def bl(v:Nat):Nat:=if nd v=0 then 0 else 64*(nd v-1)+lb (dg v (nd v-1))
theorem qt7(g o v:Nat)(w:World)(hd:Digs w g o v):
  Calls prog 186 #[.pointer (some ⟨g,o,none⟩)] w λe w'=>e=.returned (xc (bl v))/\w=w':=by
 have HD:=Lib.hid hd
 clear hd
 have hle:=jg7 v
 go_enter func186,Tryz.ntmps186
 go_wp2_with fail
 refine(qiw g o v _ HD.out).mono ?_
 rintro e w' ⟨rfl,rfl⟩
 by_cases hz:nd v=0
 .have hb:bl v=0:=by unfold bl;rw[if_pos hz]
  rw[hz]
  go_wp2_with fail
  go_ret
  exact⟨by rw[hb];rfl,rfl⟩
 .obtain⟨n,hn⟩:∃n,nd v=n+1:=⟨nd v-1,by omega⟩;have hb:bl v=64*n+lb (dg v n):=by unfold bl;rw[if_neg hz,hn];rfl
  rw[hn];have e1:((n+1:Nat):Int)-1=n:=by omega
  have hc:=HD.out n Q8E;have hlt:=jeu v n;have hlb:=jj9 _ hlt;have hw:wrap64 (64*(n:Int)+(lb (dg v n):Int))=((64*n+lb (dg v n):Nat):Int):=by unfold wrap64;omega
  go_wp2_with fail
  refine(qyr _ hlt _).mono ?_;rintro e w' ⟨rfl,rfl⟩
  go_wp2_with fail
  go_ret
  exact⟨by rw[hb];exact q62 Q8E,rfl⟩
def cm(a b:Nat):Int:=if a<b then -1 else if b<a then 1 else 0
theorem qys(g o a h p b:Nat)(w:World)(hd:Digs w g o a)(he:Digs w h p b)(ha:a<Bs^16)(hb:b<Bs^16):
  Calls prog 155 #[.pointer (some ⟨g,o,none⟩),.pointer (some ⟨h,p,none⟩)] w λe w'=>e=.returned (xc (cm a b))/\Below w.heap.size w w'/\w.heap.size=w'.heap.size:=by
 have HD:=Lib.hid hd
 have HE:=Lib.hid he
 clear hd he
 go_enter func155,Tryz.ntmps155
 go_wp2
 go_loopw [5] (λi wr=>(∃n:Nat,n<=16/\i=xc (n-1)/\a / Bs^n=b / Bs^n)/\Below w.heap.size w wr/\w.heap.size=wr.heap.size) (λi _=>(intOf i+1).toNat)
 case atStart=>exact⟨⟨16,by omega,rfl,by rw[xK ha,xK hb]⟩,Below.refl _ _,rfl⟩
 case round=>
  obtain⟨⟨n,hn,rfl,hq⟩,hbel,hsz⟩:=hrel
  match n,hn,hq with
  | 0,hn,hq=>
   simp only[Nat.pow_zero,yS] at hq;have hc:cm a b=0:=by unfold cm;rw[if_neg Q8E,if_neg Q8E]
   go_wp2_with fail
   go_ret
   exact⟨by rw[hc];rfl,hbel,hsz⟩
  | n+1,hn,hq=>
   have e1:((n+1:Nat):Int)-1=n:=by omega
   rw[e1];have c1:wr.cell? ⟨g,o+n,none⟩=some (.int .u64 ((dg a n:Nat):Int)):=(hbel.cell (p:=⟨g,o+n,none⟩) HD.out.lt).trans (HD.out n Q8E);have c2:wr.cell? ⟨h,p+n,none⟩=some (.int .u64 ((dg b n:Nat):Int)):=(hbel.cell (p:=⟨h,p+n,none⟩) HE.out.lt).trans (HE.out n Q8E);have s1:=qdy a n;have s2:=qdy b n;rw[hq] at s1;have hbel1:Below w.heap.size w wr.drew:=hbel.drew;by_cases hlt:dg a n<dg b n
   .have hcm:cm a b = -1:=by
     unfold cm;have key:a<b:=Nat.lt_of_div_lt_div (c:=Bs^n) Q8E;rw[if_pos key]
    clear s1 s2 hq;have hlt':((dg a n:Nat):Int)<((dg b n:Nat):Int):=by omega
    go_wp2_with fail
    go_region
    go_wp2_with fail
    go_ret
    exact Q82
   .have hlt':decide (((dg a n:Nat):Int)<((dg b n:Nat):Int))=false:=xe Q8E;by_cases hgt:dg b n<dg a n
    .have hcm:cm a b=1:=by
      unfold cm;have key:b<a:=Nat.lt_of_div_lt_div (c:=Bs^n) Q8E;rw[if_neg Q8E,if_pos key]
     clear s1 s2 hq;have hgt':((dg b n:Nat):Int)<((dg a n:Nat):Int):=by omega
     go_wp2_with fail
     go_region
     go_wp2_with fail
     go_region
     go_wp2_with fail
     go_ret
     exact Q82
    .have hgt':decide (((dg b n:Nat):Int)<((dg a n:Nat):Int))=false:=xe Q8E;have hqq:a / Bs^n=b / Bs^n:=by omega
     clear s1 s2 hq
     go_wp2_with fail
     go_region
     go_wp2_with fail
     go_region
     go_wp2_with fail
     go_roundw
     case rel=>exact⟨⟨n,by omega,by go_num,hqq⟩,by repeat (first|with_reducible exact hbel|with_reducible apply Below.drew|with_reducible apply qfw),hsz⟩
     case measure=>simp[intOf]
def jge(a b i:Nat):Nat->Nat:=λj=>if j<i then dg (a+b) j else 0
theorem q7f(g o a h p b:Nat)(w:World)(hd:Digs w g o a)(he:Digs w h p b):
  xa 153 #[.pointer (some ⟨g,o,none⟩),.pointer (some ⟨h,p,none⟩)] w (.tuple #[.agg (sz (a+b)),.int .u64 (cry a b 16)]):=by
 have HD:=Lib.hid hd
 have HE:=Lib.hid he
 clear hd he
 go_enter func153,Tryz.ntmps153
 go_wp2
 go_loopw [7,9] (λc i wr=>∃k:Nat,k<=16/\i=xc k/\c=.int .u64 (cry a b k)/\IsRow wr (w.heap.size+1) 122 (lim 16 (jge a b k))/\IsRow wr w.heap.size 122 (sz 0)/\Below w.heap.size w wr) (λ_ i _=>16-(intOf i).toNat)
 case atStart=>
  refine⟨0,by omega,rfl,by rw[qde];rfl,?_,?_,by repeat (first|with_reducible exact Below.refl _ _|with_reducible refine Below.alloc ?_ Q98 _)⟩
  .rw[qei 16 (jge a b 0) (dg 0) (λj _=>by rw[qjp];unfold jge;rw[if_neg Q8E])];exact Q2E
  .exact Q4F
 case round=>
  obtain⟨k,hk,rfl,rfl,hrow,hres,hbel⟩:=hrel
  by_cases hlt:k<16
  .have c1:wr.cell? ⟨g,o+k,none⟩=some (.int .u64 ((dg a k:Nat):Int)):=(hbel.cell (p:=⟨g,o+k,none⟩) HD.out.lt).trans (HD.out k hlt);have c2:wr.cell? ⟨h,p+k,none⟩=some (.int .u64 ((dg b k:Nat):Int)):=(hbel.cell (p:=⟨h,p+k,none⟩) HE.out.lt).trans (HE.out k hlt);have c3:=hrow.cell (qfd 16 (jge a b k) k hlt);have f3:=hrow.frozen k;have hz:=hbel.size;have q1:=jeu a k;have q2:=jeu b k;have q3:=qdt a b k;have ha:∀w:World,(callFunc 159 #[.int .u64 (dg a k:Nat),.int .u64 (dg b k:Nat),.int .u64 (cry a b k:Nat)]).run prog w =
    .ok (.value (.tuple #[.int .u64 (dg (a+b) k:Nat),.int .u64 (cry a b (k+1):Nat)])) w:=λw=>by
    rw[add64 _ _ _ Q8E Q8E Q8E Q8E Q8E Q8E]
    have e1:=qjq a b k
    have e2:=qhc a b k
    rw[show((dg a k:Nat):Int)+(dg b k:Nat)+(cry a b k:Nat)=((dg a k+dg b k+cry a b k:Nat):Int) by omega]
    rw[show(((dg a k+dg b k+cry a b k:Nat):Int)%18446744073709551616)=((dg (a+b) k:Nat):Int) by omega]
    rw[show(((dg a k+dg b k+cry a b k:Nat):Int) / 18446744073709551616)=((cry a b (k+1):Nat):Int) by omega]
   go_wp2_with fail
   go_region
   go_wp2_with fail
   go_roundw
   case rel=>
    refine⟨k+1,by omega,by go_num,rfl,?_,?_,by repeat (first|with_reducible exact hbel|with_reducible apply Below.drew|with_reducible apply qfw|with_reducible refine Below.setCell ?_ Q98 _)⟩
    .have:=hrow.drew.set k (.int .u64 (dg (a+b) k:Nat));rw[qle 16 (jge a b k) (jge a b (k+1)) k _ hlt (by unfold jge;rw[if_pos Q8E]) (λj hj hne=>by unfold jge;by_cases hjk:j<k<;>simp[hjk,show j<k+1↔j<k by omega])] at this;exact this
    .exact hres.drew.setOther _ _ Q8P
   case measure=>simp[intOf];omega
  .obtain rfl:k=16:=by omega
   rw[qei 16 (jge a b 16) (dg (a+b)) (λj hj=>by unfold jge;rw[if_pos hj])] at hrow;have hrow':IsRow wr (w.heap.size+1) 122 (sz (a+b)):=hrow;clear hrow
   go_wp2_with (first|(refine wpList_load_row rfl 122 _ rfl (w.heap.size+1) rfl _ (sz (a+b)) _ _ hrow' underlying122 rfl Q8Q ?_)|(refine wpList_store_row rfl 122 _ _ rfl w.heap.size (sz (a+b)) rfl rfl _ (sz 0) hres Q8Q Q8P (qfo _) ?_))
   have hrow2:=hres.row (sz (a+b));have hl:=run_loadVar_row (P:=prog) (wr.setRow w.heap.size (sz (a+b))) w.heap.size _ 122 (sz (a+b)) _ _ hrow2 underlying122 rfl Q8Q;refine bodyPost_ret (v:=.tuple #[.agg (sz (a+b)),.int .u64 (cry a b 16:Nat)]) (by simp[results,Tryz.results153,asAddr,hl]) rfl ⟨rfl,below_setRow hbel (nlr _) _⟩
open Go Go.RowKit Sx
def limL(n:Nat)(f:Nat->Nat):List Value:=(List.range n).map λj=>.int .u64 ((f j:Nat):Int)
theorem ja8(n:Nat)(f:Nat->Nat):lim n f=⟨limL n f⟩:=rfl
theorem qdf(n:Nat)(f:Nat->Nat):(limL n f).length=n:=by simp[limL]
variable{n:Nat}
theorem qf2{f:Nat->Nat}{j:Nat}(h:j<n):(limL n f).getD j undef=.int .u64 ((f j:Nat):Int):=by simp[limL,xT,h]
theorem qt8(n:Nat)(f:Nat->Nat):(limL n f).all Value.oneCell'=true:=by simp[limL,Value.oneCell']
theorem qcz{f g:Nat->Nat}(h:∀j,j<n->f j=g j):limL n f=limL n g:=yp λj hj=>by rw[h j Q8V]
theorem qaa(n:Nat)(f:Nat->Nat):flatB (.agg ⟨limL n f⟩) n=true:=by
 simp[flatB,qdf,qt8]
theorem qaf(n:Nat)(f:Nat->Nat):qap (.agg ⟨limL n f⟩)=true:=by
 simp[qap,limL,qbi]
def wiL(neg over:Bool)(v:Nat):List Value:=.bool neg :: .bool over::limL 16 (dg v)
theorem jlk(neg over:Bool)(v:Nat):wi neg over v=⟨wiL neg over v⟩:=by
 apply xF.1;simp[wi,wiL,sz,ja8]
theorem qab(neg over:Bool)(v:Nat):flatB (.agg ⟨wiL neg over v⟩) 18=true:=by
 simp[flatB,wiL,qdf,qt8,Value.oneCell']
theorem qag(neg over:Bool)(v:Nat):qap (.agg ⟨wiL neg over v⟩)=true:=by
 simp[qap,wiL,limL,qbi]
theorem qn8{F:Nat->Prop}{ρ:Rz}:∀{vs xs:List Value},All2 (Den F ρ) vs xs->xs=vs.map (den ρ)
 | [],[],_=>rfl
 | [],_::_,h=>h.elim
 | _::_,[],h=>h.elim
 | v::vs,x::xs,h=>by rw[xq,qn8 h.2,h.1.self]
theorem qgj{P:Program}{g:FuncId}{vs:List Value}{h:Hp}{v:Value}(rh:List Nat)(hv:qan v=true)(hr:∀xs w,(callFunc g xs).run P w=.ok (.enter g xs) w)
  (hc:∀(ρ:Rz)(w:World),(∀i∈rh,∀c,h[i]?=some (some c)->∀j,j<c.n->w.cell? ⟨(ρ i).1,(ρ i).2+j,none⟩=some (den1 ρ (c.f j)))->Calls P g ⟨vs.map (den ρ)⟩ w λe w'=>e=.returned v/\Below w.heap.size w w'):qae P g vs h v [] rh:=
 λh₂ hrh _ X ρ w xs H hx=>by
  have hxs:xs=vs.map (den ρ):=qn8 hx;subst hxs;refine .inr ⟨hr _ w,(hc ρ w λi hi c hic j hj=>?_).mono ?_⟩
  .obtain⟨x,hx,hd⟩:=H.cell i c ((hrh i hi).trans hic) j hj;rw[hx,hd.self]
  .exact Q4q
def Has(h:Hp)(i f v:Nat):Prop:=∃c,h[i]?=some (some c)/\f+16<=c.n/\∀j,j<16->c.f (f+j)=.int .u64 ((dg v j:Nat):Int)
theorem Has.digs{h:Hp}{i f v:Nat}(hh:Has h i f v){ρ:Rz}{w:World}{rh:List Nat}(hi:i∈rh)(hc:∀i∈rh,∀c,h[i]?=some (some c)->∀j,j<c.n->w.cell? ⟨(ρ i).1,(ρ i).2+j,none⟩=some (den1 ρ (c.f j))):Digs w (ρ i).1 ((ρ i).2+f) v:=λj hj=>by
 obtain⟨c,h1,h2,h3⟩:=hh;rw[yi,hc i hi c h1 (f+j) Q8E,h3 j hj];rfl
theorem qc0{h:Hp}{i v:Nat}{o neg over:Bool}(hi:h[i]?=some (some ⟨o,18,[(0,18,.agg ⟨wiL neg over v⟩)]⟩)):Has h i 2 v:=
 ⟨_,hi,nlr _,λj hj=>by
  refine Q3o ?_;simp only[cellIn,wiL,Nat.sub_zero];rw[show 2+j=j+1+1 by omega];simp only[List.getD_cons_succ];exact qf2 hj⟩
theorem q5j(i f v:Nat)(h:Hp)(hh:Has h i f v):qae prog 157 [.pointer (some ⟨i,f,some 0⟩)] h (xc (nd v)) [] [i]:=
 qgj [i] rfl (call157) λρ w hc=>(qiw (ρ i).1 ((ρ i).2+f) v w (hh.digs Q8P hc)).mono Q96
theorem qat{o:Bool}{p q:Nat}{f:Nat->Nat}(hp:p<n)(hq:q=p):Reads ⟨o,n,[(0,n,.agg ⟨limL n f⟩)]⟩ q false 1 (.int .u64 ((f p:Nat):Int)):=by
 subst hq;refine⟨hp,rfl,?_⟩;refine Q3o ?_;exact qf2 hp
theorem qn9{o neg over:Bool}{v p q:Nat}(hp:p<16)(hq:q=2+p):Reads ⟨o,18,[(0,18,.agg ⟨wiL neg over v⟩)]⟩ q false 1 (.int .u64 ((dg v p:Nat):Int)):=by
 subst hq;refine⟨by show 2+p<18;omega,rfl,?_⟩;show qbf _ _=_;rw[qar,if_pos Q8E];simp only[cellIn,wiL,Nat.sub_zero];rw[show 2+p=p+1+1 by omega];simp only[List.getD_cons_succ];exact qf2 hp
theorem qch{p q:Nat}{f g:Nat->Nat}{x:Int}(hp:p<n)(hq:q=p)(hx:x=((g p:Nat):Int))(hg:∀k,k<n->k≠p->g k=f k):Writes ⟨true,n,[(0,n,.agg ⟨limL n f⟩)]⟩ q 1 (.int .u64 x) ⟨true,n,[(0,n,.agg ⟨limL n g⟩)]⟩:=by
 subst hq;refine⟨rfl,hp,rfl,λk hk=>?_⟩;have hk:k<n:=hk;have e:∀f:Nat->Nat,(⟨true,n,[(0,n,.agg ⟨limL n f⟩)]⟩:Chunk).f k=.int .u64 ((f k:Nat):Int):=λf=>by
  refine Q3o ?_;exact qf2 hk
 rw[e,e];by_cases h:k=q
 .subst h;rw[if_pos Q8E,hx];rfl
 .rw[if_neg Q8E,hg k hk h]
theorem qf9(x y:Nat)(h:Hp)(hx:x<18446744073709551616)(hy:y<18446744073709551616):qae prog 158 [.int .u64 x,.int .u64 y] h (.tuple #[.int .u64 ((x*y / 18446744073709551616:Nat):Int),.int .u64 ((x*y%18446744073709551616:Nat):Int)]) [] []:=
 qai rfl rfl (call158 _) λw=>(Tryz.bits_Mul64 x y hx hy w).mono Q96
theorem qyt(x y c:Int)(h:Hp)(hx:0<=x)(hx':x<18446744073709551616)(hy:0<=y)(hy':y<18446744073709551616)(hc0:0<=c)(hc:c<=1):qae prog 159 [.int .u64 x,.int .u64 y,.int .u64 c] h (.tuple #[.int .u64 ((x+y+c)%18446744073709551616),.int .u64 ((x+y+c) / 18446744073709551616)]) [] []:=
 qts rfl rfl λw=>YtfkngpmgcimdbaaGreat.add64 x y c hx hx' hy hy' hc0 hc w
open Go.RowKit
theorem Tryz.info_u64:(prog.info? 58).isSome=true:=by kernel_rfl
theorem Tryz.cells_u64:prog.cellsOf 58=1:=by kernel_rfl
theorem qj1(w:World){xs:Array Value}{off:Nat}{v:Value}(hx:xs[off]?=some v):(part 58 xs off).run prog w=.ok v w:=by
 have ha:(isAgg 58).run prog w=.ok false w:=by
  simp
 simp[part,Sem.run_bind,ha,hx]
theorem qlf(d n:Nat)(f g:Nat->Nat)(w:World):∀is:List Nat,(∀i∈is,i<n)->(Op.eqItems (d+1) 58 1 (lim n f) (lim n g) is).run prog w=.ok (is.all λi=>f i==g i) w
 | [],_=>by simp[Op.eqItems]
 | i::is,h=>by
  have ih:=qlf d n f g w is (λj hj=>h j (by simp[hj]));have hi:=h i Q8P;have e1:=qj1 w (qfd n f i hi);have e2:=qj1 w (qfd n g i hi);have e3:=run_equalIn_int (P:=prog) w d 58 .u64 .u64 (f i) (g i) underlying58;simp only[Op.eqItems,Sem.run_bind,x6,e1,e2,e3,Result.andThen_ok];by_cases hfg:f i=g i
  .simp[hfg,ih]
  .have:((f i:Nat):Int)≠(g i:Nat):=by omega
   simp_all
theorem qki(u v:Nat)(hu:u<Bs^16)(hv:v<Bs^16)(w:World):(Op.equalIn 10000 122 (.agg (sz u)) (.agg (sz v))).run prog w=.ok (decide (u=v)) w:=by
 obtain⟨i,hi⟩:=Option.isSome_iff_exists.1 Tryz.info_u64;rw[run_equalIn_array (P:=prog) w 9999 (sz u) (sz v) underlying122 hi,Tryz.cells_u64];unfold sz;rw[qlf 9998 16 _ _ w (List.range 16) (λi hi=>by simpa using hi)];congr 1;by_cases h:u=v
 .subst h;simp
 .simp only[h,decide_false];rw[<-Bool.not_eq_true,yf];intro hall;exact h (q2n 16 u v hu hv λj hj=>by simpa using hall j Q8V)
theorem qv1(u:Nat)(hu:u<Bs^16)(w:World):(Op.equalIn 10000 122 (.agg (sz u)) (.agg #[.int .u64 0,.int .u64 0,.int .u64 0,.int .u64 0,.int .u64 0,.int .u64 0,.int .u64 0,.int .u64 0,.int .u64 0,.int .u64 0,.int .u64 0,.int .u64 0,.int .u64 0,.int .u64 0,.int .u64 0,.int .u64 0])).run prog w=.ok (decide (u=0)) w:=by
 grind[qfe,qki]
theorem qyu(f:Nat->Nat):lim 16 f = #[.int .u64 (f 0:Nat),.int .u64 (f 1:Nat),.int .u64 (f 2:Nat),.int .u64 (f 3:Nat),.int .u64 (f 4:Nat),.int .u64 (f 5:Nat),.int .u64 (f 6:Nat),.int .u64 (f 7:Nat),.int .u64 (f 8:Nat),.int .u64 (f 9:Nat),.int .u64 (f 10:Nat),.int .u64 (f 11:Nat),.int .u64 (f 12:Nat),.int .u64 (f 13:Nat),.int .u64 (f 14:Nat),.int .u64 (f 15:Nat)]:=by
 rfl
theorem ja9(v:Nat):sz v = #[.int .u64 (dg v 0:Nat),.int .u64 (dg v 1:Nat),.int .u64 (dg v 2:Nat),.int .u64 (dg v 3:Nat),.int .u64 (dg v 4:Nat),.int .u64 (dg v 5:Nat),.int .u64 (dg v 6:Nat),.int .u64 (dg v 7:Nat),.int .u64 (dg v 8:Nat),.int .u64 (dg v 9:Nat),.int .u64 (dg v 10:Nat),.int .u64 (dg v 11:Nat),.int .u64 (dg v 12:Nat),.int .u64 (dg v 13:Nat),.int .u64 (dg v 14:Nat),.int .u64 (dg v 15:Nat)]:=qyu (dg v)
theorem jng(neg over:Bool)(f:Nat->Nat): #[Value.bool neg,Value.bool over]++lim 16 f = #[.bool neg,.bool over,.int .u64 (f 0:Nat),.int .u64 (f 1:Nat),.int .u64 (f 2:Nat),.int .u64 (f 3:Nat),.int .u64 (f 4:Nat),.int .u64 (f 5:Nat),.int .u64 (f 6:Nat),.int .u64 (f 7:Nat),.int .u64 (f 8:Nat),.int .u64 (f 9:Nat),.int .u64 (f 10:Nat),.int .u64 (f 11:Nat),.int .u64 (f 12:Nat),.int .u64 (f 13:Nat),.int .u64 (f 14:Nat),.int .u64 (f 15:Nat)]:=by
 rw[qyu];simp
theorem jba(neg over:Bool)(v:Nat):wi neg over v = #[.bool neg,.bool over,.int .u64 (dg v 0:Nat),.int .u64 (dg v 1:Nat),.int .u64 (dg v 2:Nat),.int .u64 (dg v 3:Nat),.int .u64 (dg v 4:Nat),.int .u64 (dg v 5:Nat),.int .u64 (dg v 6:Nat),.int .u64 (dg v 7:Nat),.int .u64 (dg v 8:Nat),.int .u64 (dg v 9:Nat),.int .u64 (dg v 10:Nat),.int .u64 (dg v 11:Nat),.int .u64 (dg v 12:Nat),.int .u64 (dg v 13:Nat),.int .u64 (dg v 14:Nat),.int .u64 (dg v 15:Nat)]:=jng neg over (dg v)
theorem qsg(neg over:Bool):wi neg over 0 = #[.bool neg,.bool over,.int .u64 0,.int .u64 0,.int .u64 0,.int .u64 0,.int .u64 0,.int .u64 0,.int .u64 0,.int .u64 0,.int .u64 0,.int .u64 0,.int .u64 0,.int .u64 0,.int .u64 0,.int .u64 0,.int .u64 0,.int .u64 0]:=by
 grind[wi,qfe]
def qh1:Nat:=1023
def Top:Nat:=2^qh1
theorem q5k(n:Nat):Bs^n=2^(64*n):=by
 rw[Nat.pow_mul]
theorem jbb(a b:Nat)(h:a<b):2^a<2^b:=yR Q8I h
theorem jbc(n:Nat)(h:qh1<64*n):Top<Bs^n:=by
 rw[q5k];exact jbb _ _ h
theorem qbw:Top<Bs^16:=jbc 16 Q8I
theorem qgk(v:Nat):∀n,v<Bs^n->v<Bs^ndTo v n
 | 0,h=>h
 | n+1,h=>by
  rw[ndTo];split
  .rename_i hz;refine qgk v n ?_;have s:=qdy v n;rw[hz,xK h] at s;simp_all
  .exact h
theorem qoa(v:Nat):∀n,ndTo v n=0\/dg v (ndTo v n-1)≠0
 | 0=>.inl rfl
 | n+1=>by
  rw[ndTo];split
  .exact qoa v n
  simp_all
theorem qd1:∀(f x:Nat),x<2^f->x<2^Lib.bitLenAux f x/\(x≠0->2^(Lib.bitLenAux f x-1)<=x/\0<Lib.bitLenAux f x)
 | 0,x,h=>by
  have:x=0:=by simpa using h
  subst this;exact⟨by simp[Lib.bitLenAux],λh=>absurd rfl h⟩
 | f+1,x,h=>by
  rw[Lib.bitLenAux];split
  .omega
  .rename_i hz;obtain⟨h1,h2⟩:=qd1 f (x / 2) (by rw[yn] at h;omega);refine⟨by rw[Nat.add_comm,yn];omega,λ_=>⟨?_,by omega⟩⟩;rw[show 1+Lib.bitLenAux f (x / 2)-1=Lib.bitLenAux f (x / 2) by omega];by_cases hh:x / 2=0
   .have:Lib.bitLenAux f (x / 2)=0:=by rw[hh];cases f<;>simp[Lib.bitLenAux]
    grind
   grind[Nat.succ_pred_eq_of_pos,yn]
theorem qsh(v:Nat)(hv:v<Bs^16):v<2^bl v/\(v≠0->2^(bl v-1)<=v/\0<bl v):=by
 have hlt:=qgk v 16 hv;have htop:=qoa v 16;have e0:ndTo v 16=nd v:=rfl;rw[e0] at hlt htop;rcases htop with h0|h0
 .grind
 .by_cases hz:nd v=0
  .grind
  obtain⟨n,hn⟩:∃n,nd v=n+1:=⟨nd v-1,by omega⟩;have hb:bl v=64*n+lb (dg v n):=by unfold bl;rw[if_neg hz,hn];rfl
  rw[hn] at hlt h0;have h0':dg v n≠0:=h0;have hd:v / Bs^n=dg v n:=by
   grind[qdy,xK]
  obtain⟨b1,b2⟩:=qd1 64 (dg v n) (jeu v n);obtain⟨b3,b4⟩:=b2 h0';have e1:Lib.bitLenAux 64 (dg v n)=lb (dg v n):=rfl;rw[e1] at b1 b3 b4;have eB:=q5k n;rw[hb];refine⟨?_,λ_=>⟨?_,by omega⟩⟩
  .grind[xQ]
  .rw[show 64*n+lb (dg v n)-1=64*n+(lb (dg v n)-1) by omega,x8,<-eB,xm,<-yT (qb3 n),hd];exact b3
theorem qob(v k:Nat)(hv:v<Bs^16)(h:v<2^k):bl v<=k:=by
 obtain⟨h1,h2⟩:=qsh v hv;by_cases hz:v=0
 .subst hz;have:bl 0=0:=by decide
  omega
 .obtain⟨h3,h4⟩:=h2 hz;have:bl v-1<k:=(Nat.pow_lt_pow_iff_right Q8I).1 (xM h3 h);omega
theorem q2q(x:Int):prog.built 122 [(0,.int .u64 x)]=some #[.int .u64 x,.int .u64 0,.int .u64 0,.int .u64 0,.int .u64 0,.int .u64 0,.int .u64 0,.int .u64 0,.int .u64 0,.int .u64 0,.int .u64 0,.int .u64 0,.int .u64 0,.int .u64 0,.int .u64 0,.int .u64 0]:=by kernel_rfl
theorem qoc(v:Nat)(h:v<18446744073709551616):prog.built 122 [(0,.int .u64 v)]=some (sz v):=by
 grind[q2p,q2q]
theorem qsi:prog.built 122 []=some (sz 0):=by
 rw[qfe];kernel_rfl
theorem qix(neg:Bool)(v:Nat):prog.built 124 [(0,.bool neg),(2,.agg (sz v))]=some (wi neg false v):=by
 rw[ja9,jba];kernel_rfl
def zi(z:Int):Array Value:=wi (decide (z<0)) false z.natAbs
@[simp] theorem zi_size(z:Int):(zi z).size=18:=wi_size _ _ _
theorem q7g(v:Nat)(h:0<v/\v<=9223372036854775808)(w:World):xa 98 #[xc (-(v:Int))] w (.agg (wi true false v)):=by
 have hB:Below w.heap.size w w:=Below.refl _ _;have hr:=IsRow.new w (wi false false 0) 124;rw[qsg] at hr;obtain⟨h0,h1⟩:=h;have hwr:IntKind.u64.wrap (-IntKind.u64.wrap (-(v:Int)))=v:=by
  show((-((-(v:Int))%18446744073709551616))%18446744073709551616:Int)=v;omega
 have hb1:prog.built 122 [(0,.int .u64 (IntKind.u64.wrap (-IntKind.u64.wrap (-(v:Int)))))]=some (sz v):=by rw[hwr];exact qoc v Q8E
 clear hwr;have hn : -(v:Int)<0:=by omega
 have hb2:=qix true v
 go_enter func98,Tryz.ntmps98
 go_wp2_with (first|(refine qiv (ty:=122) rfl ?_;refine qf1 ?_ 122 0 _ rfl (.int .u64 (IntKind.u64.wrap (-IntKind.u64.wrap (-(v:Int))))) rfl (sz v) (hb1) ?_;(focus rfl))|(refine qiv (ty:=124) rfl ?_;refine qiu ?_ 124 0 2 _ _ rfl (.bool true) (.agg (sz v)) rfl rfl (wi true false v) (hb2) ?_;(focus rfl))|(refine qd0 (ty:=124) rfl ?_;refine wpList_store_row ?_ 124 _ _ rfl (w.heap.size) (wi true false v) rfl rfl _ (_) (hr) Q99 Q8P (qqp _ _ _) ?_;(focus rfl))|fail)
 exact bodyPost_ret Q84 rfl ⟨rfl,below_setRow (hB.alloc (nlr _) _) (nlr _) _⟩
theorem q7h(v:Nat)(h:v<9223372036854775808)(w:World):xa 98 #[xc ((v:Int))] w (.agg (wi false false v)):=by
 have hB:Below w.heap.size w w:=Below.refl _ _;have hr:=IsRow.new w (wi false false 0) 124;rw[qsg] at hr;have hwr:IntKind.u64.wrap (v:Int)=v:=by
  show((v:Int)%18446744073709551616:Int)=v;omega
 have hb1:prog.built 122 [(0,.int .u64 (v:Int))]=some (sz v):=qoc v Q8E;have hn:¬ (v:Int)<0:=by omega
 have hb2:=qix false v
 go_enter func98,Tryz.ntmps98
 go_wp2_with (first|(refine qiv (ty:=122) rfl ?_;refine qf1 ?_ 122 0 _ rfl (.int .u64 (v:Int)) rfl (sz v) (hb1) ?_;(focus rfl))|(refine qiv (ty:=124) rfl ?_;refine qiu ?_ 124 0 2 _ _ rfl (.bool false) (.agg (sz v)) rfl rfl (wi false false v) (hb2) ?_;(focus rfl))|(refine qd0 (ty:=124) rfl ?_;refine wpList_store_row ?_ 124 _ _ rfl (w.heap.size) (wi false false v) rfl rfl _ (_) (hr) Q99 Q8P (qqp _ _ _) ?_;(focus rfl))|fail)
 exact bodyPost_ret Q84 rfl ⟨rfl,below_setRow (hB.alloc (nlr _) _) (nlr _) _⟩
theorem q7i(n:Int)(h0 : -9223372036854775808<=n)(h1:n<9223372036854775808)(w:World):xa 98 #[xc n] w (.agg (zi n)):=by
 by_cases hn:n<0
 .have:=q7g n.natAbs Q8E w;rw[show -(n.natAbs:Int)=n by omega] at this;unfold zi;rw[xf hn];exact this
 .have:=q7h n.natAbs Q8E w;rw[show(n.natAbs:Int)=n by omega] at this;unfold zi;rw[xe hn];exact this
theorem q2r(neg:Bool)(v:Nat)(hv:v<Top)(w:World):xa 154 #[.bool neg,.agg (sz v)] w (.agg (wi (neg&&decide (v≠0)) false v)):=by
 have hv16:v<Bs^16:=xA hv qbw;have hbl:bl v<=1023:=qob v qh1 hv16 hv;have hB:Below w.heap.size w w:=Below.refl _ _;have hr:=(IsRow.new w (sz v) 122).alloc (.cells (wi false false 0) 124);have hr2:=IsRow.new (w.alloc (.cells (sz v) 122)) (wi false false 0) 124;have hdg:=Digs.of_sz hr;rw[qsg] at hdg hr hr2;have HD:=Lib.hid hdg;clear hdg;have hB2:Below w.heap.size w ((w.alloc (.cells (sz v) 122)).alloc (.cells #[.bool false,.bool false,.int .u64 0,.int .u64 0,.int .u64 0,.int .u64 0,.int .u64 0,.int .u64 0,.int .u64 0,.int .u64 0,.int .u64 0,.int .u64 0,.int .u64 0,.int .u64 0,.int .u64 0,.int .u64 0,.int .u64 0,.int .u64 0] 124)):=by
  refine Below.alloc (Below.alloc hB ?_ _) ?_ _
  .exact nlr _
  .simp
 go_enter func154,Tryz.ntmps154
 go_wp2_with fail
 refine(qt7 w.heap.size 0 v _ HD.out).mono ?_;rintro e w' ⟨rfl,rfl⟩;clear HD;cases neg
 .go_wp2_with fail
  rw[show(w.alloc (.cells (sz v) 122)).heap.size=w.heap.size+1 by simp] at hr2;generalize hW:((w.alloc (.cells (sz v) 122)).alloc (.cells #[.bool false,.bool false,.int .u64 0,.int .u64 0,.int .u64 0,.int .u64 0,.int .u64 0,.int .u64 0,.int .u64 0,.int .u64 0,.int .u64 0,.int .u64 0,.int .u64 0,.int .u64 0,.int .u64 0,.int .u64 0,.int .u64 0,.int .u64 0] 124))=W at hr hr2 hB2 ⊢;clear hW;have heq:=qki v 0 hv16 (qb3 16) W.drew;clear heq;refine wp_region_still_tail 8 Q8J Q8J ?_;simp only[List.take_succ_cons,List.take_zero,List.drop_succ_cons,List.drop_zero]
  repeat (first|(refine qsf (ty:=122) rfl ?_;refine qd9 ?_ 122 _ rfl (w.heap.size) rfl _ (sz v) _ _ (hr.drew) underlying122 rfl Q8Q ?_;(focus (first|rfl|(go_simp;done))))|(refine qhe (ty:=122) rfl ?_;refine qff ?_ 122 rfl (sz 0) (qsi) ?_;(focus (first|rfl|(go_simp;done))))|(refine qhe (ty:=124) rfl ?_;refine qfg ?_ 124 0 2 _ _ rfl (.bool false) (.agg (sz v)) rfl rfl (wi false false v) (qix _ _) ?_;(focus (first|rfl|(go_simp;done))))|still_step)
  refine wpStill_nil ?_;change wpList _ _ _ _ _ W.drew
  go_wp2_with (refine qd0 (ty:=124) rfl ?_;refine wpList_store_row ?_ 124 _ _ rfl (w.heap.size+1) (wi false false v) rfl rfl _ (_) (hr2.drew) Q99 Q8P (qqp _ _ _) ?_;(focus rfl))
  exact bodyPost_ret Q7I rfl ⟨by rw[show(false&&decide (v≠0))=false by simp],below_setRow hB2.drew Q8E _⟩
 .by_cases hz:v=0
  .have HZ:=Lib.hid hz;clear hz
   go_wp2_with fail
   rw[show(w.alloc (.cells (sz v) 122)).heap.size=w.heap.size+1 by simp] at hr2;generalize hW:((w.alloc (.cells (sz v) 122)).alloc (.cells #[.bool false,.bool false,.int .u64 0,.int .u64 0,.int .u64 0,.int .u64 0,.int .u64 0,.int .u64 0,.int .u64 0,.int .u64 0,.int .u64 0,.int .u64 0,.int .u64 0,.int .u64 0,.int .u64 0,.int .u64 0,.int .u64 0,.int .u64 0] 124))=W at hr hr2 hB2 ⊢;clear hW;have heq:=qki v 0 hv16 (qb3 16) W.drew;rw[xf HZ.out] at heq;refine wp_region_still_tail 8 Q8J Q8J ?_;simp only[List.take_succ_cons,List.take_zero,List.drop_succ_cons,List.drop_zero]
   repeat (first|(refine qsf (ty:=122) rfl ?_;refine qd9 ?_ 122 _ rfl (w.heap.size) rfl _ (sz v) _ _ (hr.drew) underlying122 rfl Q8Q ?_;(focus (first|rfl|(go_simp;done))))|(refine qhe (ty:=122) rfl ?_;refine qff ?_ 122 rfl (sz 0) (qsi) ?_;(focus (first|rfl|(go_simp;done))))|(refine qhe (ty:=124) rfl ?_;refine qfg ?_ 124 0 2 _ _ rfl (.bool false) (.agg (sz v)) rfl rfl (wi false false v) (qix _ _) ?_;(focus (first|rfl|(go_simp;done))))|still_step)
   refine wpStill_nil ?_;change wpList _ _ _ _ _ W.drew
   go_wp2_with (refine qd0 (ty:=124) rfl ?_;refine wpList_store_row ?_ 124 _ _ rfl (w.heap.size+1) (wi false false v) rfl rfl _ (_) (hr2.drew) Q99 Q8P (qqp _ _ _) ?_;(focus rfl))
   exact bodyPost_ret Q7I rfl ⟨by rw[show(true&&decide (v≠0))=false by simp[HZ.out]],below_setRow hB2.drew Q8E _⟩
  .have HZ:=Lib.hid hz;clear hz
   go_wp2_with fail
   rw[show(w.alloc (.cells (sz v) 122)).heap.size=w.heap.size+1 by simp] at hr2;generalize hW:((w.alloc (.cells (sz v) 122)).alloc (.cells #[.bool false,.bool false,.int .u64 0,.int .u64 0,.int .u64 0,.int .u64 0,.int .u64 0,.int .u64 0,.int .u64 0,.int .u64 0,.int .u64 0,.int .u64 0,.int .u64 0,.int .u64 0,.int .u64 0,.int .u64 0,.int .u64 0,.int .u64 0] 124))=W at hr hr2 hB2 ⊢;clear hW;have heq:=qki v 0 hv16 (qb3 16) W.drew;rw[xe HZ.out] at heq;refine wp_region_still_tail 8 Q8J Q8J ?_;simp only[List.take_succ_cons,List.take_zero,List.drop_succ_cons,List.drop_zero]
   repeat (first|(refine qsf (ty:=122) rfl ?_;refine qd9 ?_ 122 _ rfl (w.heap.size) rfl _ (sz v) _ _ (hr.drew) underlying122 rfl Q8Q ?_;(focus (first|rfl|(go_simp;done))))|(refine qhe (ty:=122) rfl ?_;refine qff ?_ 122 rfl (sz 0) (qsi) ?_;(focus (first|rfl|(go_simp;done))))|(refine qhe (ty:=124) rfl ?_;refine qfg ?_ 124 0 2 _ _ rfl (.bool true) (.agg (sz v)) rfl rfl (wi true false v) (qix _ _) ?_;(focus (first|rfl|(go_simp;done))))|still_step)
   refine wpStill_nil ?_;change wpList _ _ _ _ _ W.drew
   go_wp2_with (refine qd0 (ty:=124) rfl ?_;refine wpList_store_row ?_ 124 _ _ rfl (w.heap.size+1) (wi true false v) rfl rfl _ (_) (hr2.drew) Q99 Q8P (qqp _ _ _) ?_;(focus rfl))
   exact bodyPost_ret Q7I rfl ⟨by rw[show(true&&decide (v≠0))=true by simp[HZ.out]],below_setRow hB2.drew Q8E _⟩
theorem q7j(v p q M:Nat)(hp:0<p)(hq:0<q)(hM:0<M):v*p / (M*(p*q))=v / (M*(p*q))*p+v / M%(p*q) / q:=by
 have h1:v / (M*(p*q))=v / M / (p*q):=by rw[xU]
 have h2:=xu v M;have h3:=xu (v / M) (p*q);have h4:v*p / (M*(p*q))=v / M / q:=by
  rw[show M*(p*q)=M*q*p by rw[xm p q,x5],Nat.mul_div_mul_right _ _ hp,xU]
 rw[h4,h1];generalize v / M=x at *;have h5:x=x / (p*q)*(p*q)+x%(p*q):=by rw[xm];exact h3.symm
 conv=>lhs;rw[h5]
 rw[show x / (p*q)*(p*q)=q*(x / (p*q)*p) by rw[<-x5,xm q,x5]];rw[yK hq]
theorem qiy(k:Nat)(hk:k<64):Bs=2^k*2^(64-k):=by rw[<-x8,show k+(64-k)=64 by omega]
theorem qt9(v k:Nat):dg (v*2^k) 0=dg v 0*2^k%18446744073709551616:=by
 unfold dg;rw[Nat.pow_zero,yS,yS];show _=v%Bs*2^k%Bs;rw[Nat.mod_mul_mod]
theorem qod(v k n:Nat)(hk:k<64)(hn:0<n):dg (v*2^k) n=dg v n*2^k%18446744073709551616+dg v (n-1) / 2^(64-k):=by
 obtain⟨m,rfl⟩:∃m,n=m+1:=⟨n-1,by omega⟩;have hM:=qb3 m;have hp:0<2^k:=yd Q8I;have hq:0<2^(64-k):=yd Q8I;have g:=q7j v (2^k) (2^(64-k)) (Bs^m) hp hq hM;have e:=qiy k hk;have hd0:=xo (v / Bs^m) qbu;rw[show m+1-1=m from rfl];unfold dg;show v*2^k / Bs^(m+1)%Bs=v / Bs^(m+1)%Bs*2^k%Bs+v / Bs^m%Bs / 2^(64-k);rw[yn];generalize 2^k=p at *;generalize 2^(64-k)=q at *;rw[<-e] at g;rw[g];generalize v / (Bs^m*Bs)=x at *;generalize v / Bs^m%Bs=d at *;generalize Bs=B at *;subst e;have h1:d / q<p:=by rw[xQ hq];exact hd0
 have h2:x%(p*q)*p%(p*q)=x%q*p:=by
  rw[Nat.mod_mul_mod,xm x p,Nat.mul_mod_mul_left,xm]
 have h3:=xu x q;rw[h2];have h4:x*p+d / q=p*q*(x / q)+(x%q*p+d / q):=by
  have:x*p=p*q*(x / q)+x%q*p:=by
   conv=>lhs;rw[<-h3]
   rw[xO,xm (q*(x / q)) p,<-x5]
  omega
 rw[h4,zj,xv];have h5:=xo x hq;have h6:(x%q+1)*p<=q*p:=xV _ h5;rw[xO] at h6;rw[xm p q];omega
theorem qgl(x k:Nat):IntKind.u64.wrap ((x:Int)*2^k)=((x*2^k%18446744073709551616:Nat):Int):=by
 rw[xk];generalize h:x*2^k=y;have:(x:Int)*2^k=(y:Nat):=by rw[<-h];exact_mod_cast rfl
 rw[this];omega
theorem qdh(x k:Nat):(x:Int) / 2^k=((x / 2^k:Nat):Int):=by exact_mod_cast rfl
theorem qqq(a b:Nat)(ha:a<18446744073709551616)(hb:b<18446744073709551616):bits .or .u64 (a:Int) (b:Int)=((a ||| b:Nat):Int):=
 (bits_nat .u64 64 Q8I (λn h0 h1=>by rw[xk];omega) a b ha hb).2
theorem jka(x y k:Nat)(hk0:0<k)(hk:k<64)(hy:y<18446744073709551616):
  bits .or .u64 (IntKind.u64.wrap ((x:Int)*2^k)) ((y:Int) / 2^(64-k))=((x*2^k%18446744073709551616+y / 2^(64-k):Nat):Int):=by
 have h1:=xo (x*2^k) qbu
 have h2:y / 2^(64-k)<2^k:=by
  rw[xQ (yd Q8I),<-qiy k hk];exact hy
 have h3:2^k<=2^63:=xW Q8I Q8E
 rw[qgl,qdh,qqq _ _ h1 Q8E]
 have h4:x*2^k%18446744073709551616=2^k*(x%2^(64-k)):=by
  show x*2^k%Bs=_;rw[qiy k hk,xm x,Nat.mul_mod_mul_left]
 rw[h4,zz h2]
theorem qyv(x y k:Nat)(hk0:0<k)(hk:k<64)(hx:x<18446744073709551616):
  bits .or .u64 ((x:Int) / 2^k) (IntKind.u64.wrap ((y:Int)*2^(64-k)))=((x / 2^k+y*2^(64-k)%18446744073709551616:Nat):Int):=by
 have h1:=xo (y*2^(64-k)) qbu
 have e:Bs=2^(64-k)*2^k:=by rw[xm];exact qiy k hk
 have h2:x / 2^k<2^(64-k):=by
  rw[xQ (yd Q8I),<-e];exact hx
 have h3:2^(64-k)<=2^63:=xW Q8I Q8E
 rw[qgl,qdh,qqq _ _ Q8E h1]
 have h4:y*2^(64-k)%18446744073709551616=2^(64-k)*(y%2^k):=by
  show y*2^(64-k)%Bs=_;rw[e,xm y,Nat.mul_mod_mul_left]
 rw[h4,Nat.or_comm,<-zz h2,Nat.add_comm]
open Go.RowKit
theorem qua(m:Nat)(f g:Nat->Nat)(i:Nat)(u:Value)(x:Int)(hi:i<m)(hv:x=((g i:Nat):Int))(h:∀j,j<m->j≠i->f j=g j):((lim m f).setIfInBounds i u).setIfInBounds i (.int .u64 x)=lim m g:=by
 rw[<-qle m f g i x hi hv h];apply zn;intro j;simp only[zu,Array.size_setIfInBounds];split<;>simp_all
def upTo(v k n:Nat):Nat->Nat:=λj=>if n<=j then dg (v*2^k) j else 0
theorem qqr(v k n j:Nat)(h:j≠n):upTo v k (n+1) j=upTo v k n j:=by
 unfold upTo;by_cases hj:n<=j<;>simp[hj,show n+1<=j↔n<j from Iff.rfl]<;>omega
theorem qyw(v k n:Nat):upTo v k n n=dg (v*2^k) n:=by unfold upTo;rw[if_pos (nlr _)]
theorem jbd(g o v k:Nat)(hk:k<64)(w:World)(hd:Digs w g o v):
  xa 235 #[.pointer (some ⟨g,o,none⟩),xc k] w (.agg (sz (v*2^k))):=by
 have HD:=Lib.hid hd
 clear hd
 have q0:(k:Int) / 64=0:=by omega
 have q1:(k:Int).tdiv 64=0:=Int.tdiv_eq_zero_of_lt Q8E Q8E
 have q2:(k:Int).tmod 64=k:=Int.tmod_eq_of_lt Q8E Q8E
 have q3:(k:Int)%64=k:=by omega
 go_enter func235,Tryz.ntmps235
 go_wp2
 go_loopw [6] (λi wr=>∃n:Nat,n<=16/\i=xc (n-1)/\IsRow wr (w.heap.size+1) 122 (lim 16 (upTo v k n))/\IsRow wr w.heap.size 122 (sz 0)/\Below w.heap.size w wr) (λi _=>(intOf i+1).toNat)
 case atStart=>
  refine⟨16,by omega,rfl,?_,?_,by repeat (first|with_reducible exact Below.refl _ _|with_reducible refine Below.alloc ?_ Q98 _)⟩
  .rw[qei 16 (upTo v k 16) (dg 0) (λj hj=>by rw[qjp];unfold upTo;rw[if_neg Q8E])];exact Q2E
  .exact Q4F
 case round=>
  obtain⟨n,hn,rfl,hrow,hres,hbel⟩:=hrel
  match n,hn with
  | 0,hn=>
   rw[qei 16 (upTo v k 0) (dg (v*2^k)) (λj hj=>by unfold upTo;rw[if_pos Q8E])] at hrow;have hrow':IsRow wr (w.heap.size+1) 122 (sz (v*2^k)):=hrow;clear hrow
   go_wp2_with (first|(refine qn7 (ty:=122) rfl ?_;refine wpList_load_row ?_ 122 _ rfl (w.heap.size+1) rfl _ (sz (v*2^k)) _ _ (hrow') underlying122 rfl Q8Q ?_;(focus rfl))|(refine qd0 (ty:=122) rfl ?_;refine wpList_store_row ?_ 122 _ _ rfl (w.heap.size) (sz (v*2^k)) rfl rfl _ (_) (hres) Q8Q Q8P (qfo _) ?_;(focus rfl))|fail)
   exact bodyPost_ret (results_cell_row Tryz.results235 _ _ w.heap.size _ _ _ _ rfl (hres.row _) underlying122 rfl Q8Q) rfl ⟨rfl,below_setRow hbel (nlr _) _⟩
  | n+1,hn=>
   have e1:((n+1:Nat):Int)-1=n:=by omega
   rw[e1];have c1:wr.cell? ⟨g,o+n,none⟩=some (.int .u64 ((dg v n:Nat):Int)):=(hbel.cell (p:=⟨g,o+n,none⟩) HD.out.lt).trans (HD.out n Q8E);have c3:=hrow.cell (qfd 16 (upTo v k (n+1)) n Q8E);have f3:=hrow.frozen n;have hz:=hbel.size;have hrow1:=hrow.set n (.int .u64 (IntKind.u64.wrap (((dg v n:Nat):Int)*2^k)));have hres1:IsRow (wr.setCell ⟨w.heap.size+1,n,none⟩ (.int .u64 (IntKind.u64.wrap (((dg v n:Nat):Int)*2^k)))) w.heap.size 122 (sz 0):=hres.setOther _ _ Q8P;have hbel1:Below w.heap.size w (wr.setCell ⟨w.heap.size+1,n,none⟩ (.int .u64 (IntKind.u64.wrap (((dg v n:Nat):Int)*2^k)))):=hbel.setCell Q8P _;by_cases hk0:0<k/\0<n
   .obtain⟨hk0,hn0⟩:=hk0
    go_wp2_with fail
    clear c1 c3 f3 hrow hres hbel;generalize wr.setCell ⟨w.heap.size+1,n,none⟩ (.int .u64 (IntKind.u64.wrap (((dg v n:Nat):Int)*2^k)))=W at *;have c2:W.cell? ⟨g,o+(n-1),none⟩=some (.int .u64 ((dg v (n-1):Nat):Int)):=(hbel1.cell (p:=⟨g,o+(n-1),none⟩) HD.out.lt).trans (HD.out (n-1) Q8E);have c3:W.cell? ⟨w.heap.size+1,n,none⟩=some (.int .u64 (IntKind.u64.wrap (((dg v n:Nat):Int)*2^k))):=hrow1.cell Qa0;have f3:=hrow1.frozen n
    go_region
    go_wp2_with fail
    go_roundw
    case rel=>
     refine⟨n,by omega,by go_num,?_,hres1.setOther _ _ Q8P,(hbel1.setCell Q8P _).drew⟩
     have h2:=hrow1.set n (.int .u64 (bits .or .u64 (IntKind.u64.wrap (((dg v n:Nat):Int)*2^k)) (((dg v (n-1):Nat):Int) / 2^(64-k))))
     rw[qua 16 (upTo v k (n+1)) (upTo v k n) n _ _ Q8E (by rw[jka _ _ _ hk0 hk (jeu _ _),qyw,qod v k n hk hn0]) (λj _ hj=>qqr v k n j hj)] at h2
     exact h2
    case measure=>simp[intOf]
   .have hval:IntKind.u64.wrap (((dg v n:Nat):Int)*2^k)=((upTo v k n n:Nat):Int):=by
     rw[qgl,qyw];by_cases hn0:n=0
     .subst hn0;rw[qt9]
     .obtain rfl:k=0:=by omega
      rw[Nat.pow_zero,x6,x6,xv (jeu v n)]
    rw[qle 16 (upTo v k (n+1)) (upTo v k n) n _ Q8E hval (λj _ hj=>qqr v k n j hj)] at hrow1;have HV:=Lib.hid hval;clear hval;by_cases hk1:0<k
    .have hn0:¬ 0<n:=λh=>hk0 ⟨hk1,h⟩
     have hn1:decide ((n:Int) > 0)=false:=xe Q8E;clear hk0;exact Q3T
    .clear hk0;have hk2:decide ((k:Int) > 0)=false:=xe Q8E;exact Q3T
def qb9(v k n:Nat):Nat->Nat:=λj=>if j<n then dg (v / 2^k) j else 0
theorem qf3(v k n j:Nat)(h:j≠n):qb9 v k n j=qb9 v k (n+1) j:=by
 grind[qb9]
theorem qiz(v k n:Nat):qb9 v k (n+1) n=dg (v / 2^k) n:=by grind[qb9]
theorem q2s(g o v k:Nat)(hk:k<64)(hv:v<Bs^16)(w:World)(hd:Digs w g o v):
  Calls prog 237 #[.pointer (some ⟨g,o,none⟩),xc k] w λe w'=>(∃b,e=.returned (.tuple #[.agg (sz (v / 2^k)),.bool b]))/\Below w.heap.size w w':=by
 have HD:=Lib.hid hd
 clear hd
 have q0:(k:Int) / 64=0:=by omega
 have q1:(k:Int).tdiv 64=0:=Int.tdiv_eq_zero_of_lt Q8E Q8E
 have q2:(k:Int).tmod 64=k:=Int.tmod_eq_of_lt Q8E Q8E
 have q3:(k:Int)%64=k:=by omega
 go_enter func237,Tryz.ntmps237
 go_wp2
 have hrow0:IsRow ((w.alloc (.cells #[.int .u64 0,.int .u64 0,.int .u64 0,.int .u64 0,.int .u64 0,.int .u64 0,.int .u64 0,.int .u64 0,.int .u64 0,.int .u64 0,.int .u64 0,.int .u64 0,.int .u64 0,.int .u64 0,.int .u64 0,.int .u64 0] 122)).alloc (.cells #[.int .u64 0,.int .u64 0,.int .u64 0,.int .u64 0,.int .u64 0,.int .u64 0,.int .u64 0,.int .u64 0,.int .u64 0,.int .u64 0,.int .u64 0,.int .u64 0,.int .u64 0,.int .u64 0,.int .u64 0,.int .u64 0] 122)) (w.heap.size+1) 122 (sz 0):=Q2E
 have hres0:IsRow ((w.alloc (.cells #[.int .u64 0,.int .u64 0,.int .u64 0,.int .u64 0,.int .u64 0,.int .u64 0,.int .u64 0,.int .u64 0,.int .u64 0,.int .u64 0,.int .u64 0,.int .u64 0,.int .u64 0,.int .u64 0,.int .u64 0,.int .u64 0] 122)).alloc (.cells #[.int .u64 0,.int .u64 0,.int .u64 0,.int .u64 0,.int .u64 0,.int .u64 0,.int .u64 0,.int .u64 0,.int .u64 0,.int .u64 0,.int .u64 0,.int .u64 0,.int .u64 0,.int .u64 0,.int .u64 0,.int .u64 0] 122)) w.heap.size 122 (sz 0):=Q4F
 have hbel0:Below w.heap.size w ((w.alloc (.cells #[.int .u64 0,.int .u64 0,.int .u64 0,.int .u64 0,.int .u64 0,.int .u64 0,.int .u64 0,.int .u64 0,.int .u64 0,.int .u64 0,.int .u64 0,.int .u64 0,.int .u64 0,.int .u64 0,.int .u64 0,.int .u64 0] 122)).alloc (.cells #[.int .u64 0,.int .u64 0,.int .u64 0,.int .u64 0,.int .u64 0,.int .u64 0,.int .u64 0,.int .u64 0,.int .u64 0,.int .u64 0,.int .u64 0,.int .u64 0,.int .u64 0,.int .u64 0,.int .u64 0,.int .u64 0] 122)):=by
  repeat (first|with_reducible exact Below.refl _ _|with_reducible refine Below.alloc ?_ Q98 _)
 generalize ((w.alloc (.cells #[.int .u64 0,.int .u64 0,.int .u64 0,.int .u64 0,.int .u64 0,.int .u64 0,.int .u64 0,.int .u64 0,.int .u64 0,.int .u64 0,.int .u64 0,.int .u64 0,.int .u64 0,.int .u64 0,.int .u64 0,.int .u64 0] 122)).alloc (.cells #[.int .u64 0,.int .u64 0,.int .u64 0,.int .u64 0,.int .u64 0,.int .u64 0,.int .u64 0,.int .u64 0,.int .u64 0,.int .u64 0,.int .u64 0,.int .u64 0,.int .u64 0,.int .u64 0,.int .u64 0,.int .u64 0] 122))=W0 at hrow0 hres0 hbel0 ⊢
 go_loopw [7,13] (λr i wr=>wr=W0/\r=.bool false/\i=xc 0) (λ_ _ _=>0)
 case atStart=>exact⟨rfl,rfl,rfl⟩
 case round=>
  obtain⟨e0,rfl,rfl⟩:=hrel
  have e1:=e0.symm
  clear e0
  subst e1
  go_wp2_with fail
  go_loopw [9] (λi wr=>∃n:Nat,n<=16/\i=xc n/\IsRow wr (w.heap.size+1) 122 (lim 16 (qb9 v k n))/\IsRow wr w.heap.size 122 (sz 0)/\Below w.heap.size w wr) (λi _=>16-(intOf i).toNat)
  case atStart=>
   refine⟨0,by omega,rfl,?_,hres0,hbel0⟩
   rw[qei 16 (qb9 v k 0) (dg 0) (λj hj=>by rw[qjp];unfold qb9;rw[if_neg Q8E])]
   exact hrow0
  case round=>
   obtain⟨n,hn,rfl,hrow,hres,hbel⟩:=hrel
   by_cases hlt:n<16
   .have c1:wr.cell? ⟨g,o+n,none⟩=some (.int .u64 ((dg v n:Nat):Int)):=(hbel.cell (p:=⟨g,o+n,none⟩) HD.out.lt).trans (HD.out n Q8E);have c3:=hrow.cell (qfd 16 (qb9 v k n) n hlt);have f3:=hrow.frozen n;have hz:=hbel.size;have hrow1:=hrow.set n (.int .u64 (((dg v n:Nat):Int) / 2^k));have hres1:IsRow (wr.setCell ⟨w.heap.size+1,n,none⟩ (.int .u64 (((dg v n:Nat):Int) / 2^k))) w.heap.size 122 (sz 0):=hres.setOther _ _ Q8P;have hbel1:Below w.heap.size w (wr.setCell ⟨w.heap.size+1,n,none⟩ (.int .u64 (((dg v n:Nat):Int) / 2^k))):=hbel.setCell Q8P _;by_cases hk0:0<k/\n+1<16
    .obtain⟨hk0,hn0⟩:=hk0
     go_wp2_with fail
     clear c1 c3 f3 hrow hres hbel;generalize wr.setCell ⟨w.heap.size+1,n,none⟩ (.int .u64 (((dg v n:Nat):Int) / 2^k))=W at *;have c2:W.cell? ⟨g,o+(n+1),none⟩=some (.int .u64 ((dg v (n+1):Nat):Int)):=(hbel1.cell (p:=⟨g,o+(n+1),none⟩) HD.out.lt).trans (HD.out (n+1) Q8E);have c3:W.cell? ⟨w.heap.size+1,n,none⟩=some (.int .u64 (((dg v n:Nat):Int) / 2^k)):=hrow1.cell Qa0;have f3:=hrow1.frozen n
     go_region
     go_wp2_with fail
     go_roundw
     case rel=>
      refine⟨n+1,by omega,by go_num,?_,hres1.setOther _ _ Q8P,(hbel1.setCell Q8P _).drew⟩
      have h2:=hrow1.set n (.int .u64 (bits .or .u64 (((dg v n:Nat):Int) / 2^k) (IntKind.u64.wrap (((dg v (n+1):Nat):Int)*2^(64-k)))))
      rw[qua 16 (qb9 v k n) (qb9 v k (n+1)) n _ _ Q8E (by rw[qyv _ _ _ hk0 hk (jeu _ _),qiz,qn6 v n k hk]) (λj _ hj=>qf3 v k n j hj)] at h2
      exact h2
     case measure=>simp[intOf];omega
    .have hval:((dg v n:Nat):Int) / 2^k=((qb9 v k (n+1) n:Nat):Int):=by
      rw[qdh,qiz,qn6 v n k hk];by_cases hn0:n+1<16
      .obtain rfl:k=0:=by omega
       rw[show dg v (n+1)*2^(64-0)%18446744073709551616=0 from Nat.mul_mod_left _ _,xZ]
      .obtain rfl:n=15:=by omega
       rw[qbv v 16 hv,yw,Nat.zero_mod,xZ]
     rw[qle 16 (qb9 v k n) (qb9 v k (n+1)) n _ Q8E hval (λj _ hj=>qf3 v k n j hj)] at hrow1;have HV:=Lib.hid hval;clear hval;by_cases hk1:0<k
     .have hn0:¬ n+1<16:=λh=>hk0 ⟨hk1,h⟩
      have hn1:decide ((n:Int)+1<16)=false:=xe Q8E;clear hk0;exact Q3H
     .clear hk0;have hk2:decide ((k:Int) > 0)=false:=xe Q8E;exact Q3H
   .obtain rfl:n=16:=by omega
    have c1:wr.cell? ⟨g,o,none⟩=some (.int .u64 ((dg v 0:Nat):Int)):=(hbel.cell (p:=⟨g,o,none⟩) HD.out.lt).trans (HD.out 0 Q8E);rw[qei 16 (qb9 v k 16) (dg (v / 2^k)) (λj hj=>by unfold qb9;rw[if_pos hj])] at hrow;have hrow':IsRow wr (w.heap.size+1) 122 (sz (v / 2^k)):=hrow;clear hrow;by_cases hk1:0<k
    .exact Q1i
    .have hk2:decide ((k:Int) > 0)=false:=xe Q8E;exact Q1i
open Go.RowKit
theorem qub(lo y:Nat)(hlo:lo<18446744073709551616)(hy0:0<y)(hy:y<18446744073709551616)(w:World):
  xa 233 #[.int .u64 0,.int .u64 lo,.int .u64 y] w (.tuple #[.int .u64 (lo / y:Nat),.int .u64 (lo%y:Nat)]):=by
 have hB:Below w.heap.size w w:=Below.refl _ _
 have h1:((y:Int)==0)=false:=by simp;omega
 have h2:¬ (y:Int)<=0:=by omega
 have h3:(lo:Int).tdiv y=((lo / y:Nat):Int):=rfl
 have h4:(lo:Int).tmod y=((lo%y:Nat):Int):=rfl
 have h5:lo / y<18446744073709551616:=xM (yz _ _) hlo
 have h6:lo%y<18446744073709551616:=xM (Nat.mod_le _ _) hlo
 go_enter func233,Tryz.ntmps233
 go_wp2_with fail
 go_region
 go_wp2_with fail
 have e1:IntKind.u64.wrap ((lo:Int) / (y:Int))=((lo / y:Nat):Int):=by
  rw[show(lo:Int) / (y:Int)=((lo / y:Nat):Int) from rfl,xk];generalize lo / y=q at *;omega
 have e2:(lo:Int)%(y:Int)=((lo%y:Nat):Int):=rfl
 exact bodyPost_ret (v:=.tuple #[.int .u64 (lo / y:Nat),.int .u64 (lo%y:Nat)]) (by simp[results,Tryz.results233,e1]) rfl ⟨rfl,hB.drew⟩
def jgi(a b n:Nat):Nat->Nat:=λj=>if n<=j then dg (a / b) j else 0
theorem qqs(a b n j:Nat)(h:j≠n):jgi a b (n+1) j=jgi a b n j:=by
 grind[jgi]
theorem qyx(a b n:Nat):jgi a b n n=dg (a / b) n:=by grind[jgi]
def rm(a b i:Nat):Nat:=a / Bs^i%b
theorem qyy(a b:Nat):cm a b<0↔a<b:=by grind[cm]
theorem jbe(b:Nat)(h0:0<b)(h:b<18446744073709551616):nd b=1:=by
 have key:∀n,ndTo b (n+1)=1:=by
  intro n
  induction n with
  | zero=>
   grind[ndTo,qhd]
  | succ n ih=>rw[ndTo,if_pos (by rw[qhd b h];simp),ih]
 exact key 15
theorem qv2(a b:Nat)(ha:a<Bs^16)(hb0:0<b)(hb:b<18446744073709551616)
  (H:∀(i:Nat)(w:World),i<nd a->Calls prog 233 #[.int .u64 (rm a b (i+1):Nat),.int .u64 (dg a i:Nat),.int .u64 (b:Nat)] w λe w'=>
   e=.returned (.tuple #[.int .u64 (dg (a / b) i:Nat),.int .u64 (rm a b i:Nat)])/\Below w.heap.size w w') (w:World) :
  xa 215 #[.agg (sz a),.agg (sz b)] w (.tuple #[.agg (sz (a / b)),.agg (sz (a%b))]):=by
 have hb16:b<Bs^16:=xl hb (Nat.le_self_pow Q8I Bs)
 have hB:Below w.heap.size w w:=Below.refl _ _
 go_enter func215,Tryz.ntmps215
 go_wp2_with fail
 have r0:IsRow ((((((w.alloc (.cells (sz a) 122)).alloc (.cells (sz b) 122)).alloc (.cells (sz 0) 122)).alloc (.cells (sz 0) 122)).alloc (.cells (sz 0) 122)).alloc (.cells (sz 0) 122)) w.heap.size 122 (sz a):=(((((IsRow.new w (sz a) 122).alloc (.cells (sz b) 122)).alloc (.cells (sz 0) 122)).alloc (.cells (sz 0) 122)).alloc (.cells (sz 0) 122)).alloc (.cells (sz 0) 122)
 have r1:IsRow ((((((w.alloc (.cells (sz a) 122)).alloc (.cells (sz b) 122)).alloc (.cells (sz 0) 122)).alloc (.cells (sz 0) 122)).alloc (.cells (sz 0) 122)).alloc (.cells (sz 0) 122)) (w.heap.size+1) 122 (sz b):=by
  have h:=((((IsRow.new (w.alloc (.cells (sz a) 122)) (sz b) 122).alloc (.cells (sz 0) 122)).alloc (.cells (sz 0) 122)).alloc (.cells (sz 0) 122)).alloc (.cells (sz 0) 122);rw[show(w.alloc (.cells (sz a) 122)).heap.size=w.heap.size+1 by simp] at h;exact h
 have r2:IsRow ((((((w.alloc (.cells (sz a) 122)).alloc (.cells (sz b) 122)).alloc (.cells (sz 0) 122)).alloc (.cells (sz 0) 122)).alloc (.cells (sz 0) 122)).alloc (.cells (sz 0) 122)) (w.heap.size+1+1) 122 (sz 0):=by
  have h:=(((IsRow.new ((w.alloc (.cells (sz a) 122)).alloc (.cells (sz b) 122)) (sz 0) 122).alloc (.cells (sz 0) 122)).alloc (.cells (sz 0) 122)).alloc (.cells (sz 0) 122);rw[show((w.alloc (.cells (sz a) 122)).alloc (.cells (sz b) 122)).heap.size=w.heap.size+1+1 by simp] at h;exact h
 have r3:IsRow ((((((w.alloc (.cells (sz a) 122)).alloc (.cells (sz b) 122)).alloc (.cells (sz 0) 122)).alloc (.cells (sz 0) 122)).alloc (.cells (sz 0) 122)).alloc (.cells (sz 0) 122)) (w.heap.size+1+1+1) 122 (sz 0):=by
  have h:=((IsRow.new (((w.alloc (.cells (sz a) 122)).alloc (.cells (sz b) 122)).alloc (.cells (sz 0) 122)) (sz 0) 122).alloc (.cells (sz 0) 122)).alloc (.cells (sz 0) 122);rw[show(((w.alloc (.cells (sz a) 122)).alloc (.cells (sz b) 122)).alloc (.cells (sz 0) 122)).heap.size=w.heap.size+1+1+1 by simp] at h;exact h
 have r4:IsRow ((((((w.alloc (.cells (sz a) 122)).alloc (.cells (sz b) 122)).alloc (.cells (sz 0) 122)).alloc (.cells (sz 0) 122)).alloc (.cells (sz 0) 122)).alloc (.cells (sz 0) 122)) (w.heap.size+1+1+1+1) 122 (sz 0):=by
  have h:=(IsRow.new ((((w.alloc (.cells (sz a) 122)).alloc (.cells (sz b) 122)).alloc (.cells (sz 0) 122)).alloc (.cells (sz 0) 122)) (sz 0) 122).alloc (.cells (sz 0) 122);rw[show((((w.alloc (.cells (sz a) 122)).alloc (.cells (sz b) 122)).alloc (.cells (sz 0) 122)).alloc (.cells (sz 0) 122)).heap.size=w.heap.size+1+1+1+1 by simp] at h;exact h
 have hB0:Below w.heap.size w ((((((w.alloc (.cells (sz a) 122)).alloc (.cells (sz b) 122)).alloc (.cells (sz 0) 122)).alloc (.cells (sz 0) 122)).alloc (.cells (sz 0) 122)).alloc (.cells (sz 0) 122)):=by
  repeat (first|with_reducible exact hB|with_reducible refine Below.alloc ?_ Q98 _)
 have hsz0:((((((w.alloc (.cells (sz a) 122)).alloc (.cells (sz b) 122)).alloc (.cells (sz 0) 122)).alloc (.cells (sz 0) 122)).alloc (.cells (sz 0) 122)).alloc (.cells (sz 0) 122)).heap.size=w.heap.size+6:=by simp
 rw[<-qfe]
 generalize ((((((w.alloc (.cells (sz a) 122)).alloc (.cells (sz b) 122)).alloc (.cells (sz 0) 122)).alloc (.cells (sz 0) 122)).alloc (.cells (sz 0) 122)).alloc (.cells (sz 0) 122))=W at r0 r1 r2 r3 r4 hB0 hsz0 ⊢
 refine(qys w.heap.size 0 a (w.heap.size+1) 0 b W (Digs.of_sz r0) (Digs.of_sz r1) ha hb16).mono ?_
 rintro e w1 ⟨rfl,hb1,hs1⟩
 have l0:=r0.below hb1 r0.lt
 have l1:=r1.below hb1 r1.lt
 have l2:=r2.below hb1 r2.lt
 have l3:=r3.below hb1 r3.lt
 have l4:=r4.below hb1 r4.lt
 have hB1:Below w.heap.size w w1:=hB0.trans (hb1.mono Q8E)
 have hz1:w1.heap.size=w.heap.size+6:=by omega
 clear r0 r1 r2 r3 r4 hb1 hB0 hs1 hsz0 hB
 by_cases hab:a<b
 .have hc:cm a b = -1:=by unfold cm;rw[if_pos hab]
  rw[hc];clear hc
  go_wp2_with fail
  refine wp_region_any Q8J ?_;change wpAny _ _ _ _ _ _ _ (World.drew _);refine wpAny_ready (rs:=[0,1]) Q8J Q8P ?_;refine AllReady.cons rfl (λK hK=>?_) (AllReady.cons rfl (λK hK=>?_) AllReady.nil)
  .refine qdp rfl 122 _ rfl (w.heap.size+1+1+1+1) rfl _ (sz 0) _ _ (l4.drew) underlying122 rfl Q8Q ?_;refine hK _ _ ?_;clear hK K;refine wpAny_ready (rs:=[1,2]) Q8J Q8P ?_;refine AllReady.cons rfl (λK hK=>?_) (AllReady.cons rfl (λK hK=>?_) AllReady.nil)
   .refine qdp rfl 122 _ rfl (w.heap.size) rfl _ (sz a) _ _ (l0.drew) underlying122 rfl Q8Q ?_;refine hK _ _ ?_;clear hK K;refine wpAny_ready (rs:=[2]) Q8J Q8P ?_;refine AllReady.cons rfl (λK hK=>?_) AllReady.nil;refine qcq rfl 122 _ _ rfl (w.heap.size+1+1) (sz 0) rfl rfl _ _ (l2.drew) Q8Q Q8P (qfo _) ?_;refine hK _ _ ?_;clear hK K;refine wpAny_ready (rs:=[3]) Q8J Q8P ?_;refine AllReady.cons rfl (λK hK=>?_) AllReady.nil;refine qcq rfl 122 _ _ rfl (w.heap.size+1+1+1) (sz a) rfl rfl _ _ (l3.drew.rowOther (w.heap.size+1+1) (sz 0) Q8E) Q8Q Q8P (qfo _) ?_;refine hK _ _ ?_;clear hK K;refine wpAny_done Q8J ?_ _
    go_wp2_with fail
    have m2:=(l2.drew.row (sz 0)).rowOther (w.heap.size+1+1+1) (sz a) Q8E;have m3:=(l3.drew.rowOther (w.heap.size+1+1) (sz 0) Q8E).row (sz a);have h2:=run_loadVar_row (P:=prog) _ _ _ 122 _ _ _ m2 underlying122 rfl Q8Q;have h3:=run_loadVar_row (P:=prog) _ _ _ 122 _ _ _ m3 underlying122 rfl Q8Q;exact bodyPost_ret Q7Z rfl ⟨by rw[xK hab,xv hab],below_setRow (below_setRow hB1.drew Q8E _) Q8E _⟩
   .refine qcq rfl 122 _ _ rfl (w.heap.size+1+1) (sz 0) rfl rfl _ _ (l2.drew) Q8Q Q8P (qfo _) ?_;refine hK _ _ ?_;clear hK K;refine wpAny_ready (rs:=[1]) Q8J Q8P ?_;refine AllReady.cons rfl (λK hK=>?_) AllReady.nil;refine qdp rfl 122 _ rfl (w.heap.size) rfl _ (sz a) _ _ (l0.drew.rowOther (w.heap.size+1+1) (sz 0) Q8E) underlying122 rfl Q8Q ?_;refine hK _ _ ?_;clear hK K;refine wpAny_ready (rs:=[3]) Q8J Q8P ?_;refine AllReady.cons rfl (λK hK=>?_) AllReady.nil;refine qcq rfl 122 _ _ rfl (w.heap.size+1+1+1) (sz a) rfl rfl _ _ (l3.drew.rowOther (w.heap.size+1+1) (sz 0) Q8E) Q8Q Q8P (qfo _) ?_;refine hK _ _ ?_;clear hK K;refine wpAny_done Q8J ?_ _
    go_wp2_with fail
    have m2:=(l2.drew.row (sz 0)).rowOther (w.heap.size+1+1+1) (sz a) Q8E;have m3:=(l3.drew.rowOther (w.heap.size+1+1) (sz 0) Q8E).row (sz a);have h2:=run_loadVar_row (P:=prog) _ _ _ 122 _ _ _ m2 underlying122 rfl Q8Q;have h3:=run_loadVar_row (P:=prog) _ _ _ 122 _ _ _ m3 underlying122 rfl Q8Q;exact bodyPost_ret Q7Z rfl ⟨by rw[xK hab,xv hab],below_setRow (below_setRow hB1.drew Q8E _) Q8E _⟩
  .refine qdp rfl 122 _ rfl (w.heap.size) rfl _ (sz a) _ _ (l0.drew) underlying122 rfl Q8Q ?_;refine hK _ _ ?_;clear hK K;refine wpAny_ready (rs:=[0]) Q8J Q8P ?_;refine AllReady.cons rfl (λK hK=>?_) AllReady.nil;refine qdp rfl 122 _ rfl (w.heap.size+1+1+1+1) rfl _ (sz 0) _ _ (l4.drew) underlying122 rfl Q8Q ?_;refine hK _ _ ?_;clear hK K;refine wpAny_ready (rs:=[2]) Q8J Q8P ?_;refine AllReady.cons rfl (λK hK=>?_) AllReady.nil;refine qcq rfl 122 _ _ rfl (w.heap.size+1+1) (sz 0) rfl rfl _ _ (l2.drew) Q8Q Q8P (qfo _) ?_;refine hK _ _ ?_;clear hK K;refine wpAny_ready (rs:=[3]) Q8J Q8P ?_;refine AllReady.cons rfl (λK hK=>?_) AllReady.nil;refine qcq rfl 122 _ _ rfl (w.heap.size+1+1+1) (sz a) rfl rfl _ _ (l3.drew.rowOther (w.heap.size+1+1) (sz 0) Q8E) Q8Q Q8P (qfo _) ?_;refine hK _ _ ?_;clear hK K;refine wpAny_done Q8J ?_ _
   go_wp2_with fail
   have m2:=(l2.drew.row (sz 0)).rowOther (w.heap.size+1+1+1) (sz a) Q8E;have m3:=(l3.drew.rowOther (w.heap.size+1+1) (sz 0) Q8E).row (sz a);have h2:=run_loadVar_row (P:=prog) _ _ _ 122 _ _ _ m2 underlying122 rfl Q8Q;have h3:=run_loadVar_row (P:=prog) _ _ _ 122 _ _ _ m3 underlying122 rfl Q8Q;exact bodyPost_ret Q7Z rfl ⟨by rw[xK hab,xv hab],below_setRow (below_setRow hB1.drew Q8E _) Q8E _⟩
 .have hc:decide (cm a b<0)=false:=xe (by rw[qyy];exact hab);have hn1:=jbe b hb0 hb
  go_wp2_with fail
  refine(qiw w.heap.size 0 a _ (Digs.of_sz l0)).mono ?_;rintro e w' ⟨rfl,rfl⟩
  go_wp2_with fail
  refine(qiw (w.heap.size+1) 0 b _ (Digs.of_sz l1)).mono ?_;rintro e w' ⟨rfl,rfl⟩;rw[hn1];have hna:=jg7 a;have hlt:=qgk a 16 ha;rw[show ndTo a 16=nd a from rfl] at hlt
  go_wp2_with fail
  go_loopw [10,11] (λl i wr=>∃n:Nat,n<=nd a/\i=xc (n-1)/\l=.int .u64 (rm a b n:Nat)/\IsRow wr w.heap.size 122 (sz a)/\IsRow wr (w.heap.size+1) 122 (sz b)/\IsRow wr (w.heap.size+1+1) 122 (sz 0)/\IsRow wr (w.heap.size+1+1+1) 122 (sz 0)/\IsRow wr (w.heap.size+1+1+1+1) 122 (lim 16 (jgi a b n))/\Below w.heap.size w wr) (λ_ i _=>(intOf i+1).toNat)
  case atStart=>
   refine⟨nd a,nlr _,rfl,by unfold rm;rw[xK hlt,Nat.zero_mod];rfl,l0,l1,l2,l3,?_,hB1⟩
   rw[qei 16 (jgi a b (nd a)) (dg 0) (λj hj=>by
    rw[qjp];unfold jgi;split
    .exact qbv _ _ (xM (yz _ _) (xl hlt (xW qbu Q8E)))
    .rfl)]
   exact l4
  case round=>
   clear l0 l1 l2 l3 l4 hB1 hz1
   obtain⟨n,hn,rfl,rfl,l0,l1,l2,l3,l4,hB1⟩:=hrel
   match n,hn with
   | 0,hn=>
    rw[qei 16 (jgi a b 0) (dg (a / b)) (λj hj=>by unfold jgi;rw[if_pos Q8E])] at l4;have l4':IsRow wr (w.heap.size+1+1+1+1) 122 (sz (a / b)):=l4;clear l4;have hrm:rm a b 0=a%b:=by unfold rm;rw[Nat.pow_zero,yS]
    have hbm:a%b<18446744073709551616:=xA (xo a hb0) hb;have hbt:prog.built 122 [(0,.int .u64 ((rm a b 0:Nat):Int))]=some (sz (a%b)):=by rw[hrm];exact qoc (a%b) hbm
    clear hrm
    go_wp2_with (first|(refine qn7 (ty:=122) rfl ?_;refine wpList_load_row ?_ 122 _ rfl (w.heap.size+1+1+1+1) rfl _ (sz (a / b)) _ _ (l4') underlying122 rfl Q8Q ?_;(focus rfl))|(refine qiv (ty:=122) rfl ?_;refine qf1 ?_ 122 0 _ rfl (.int .u64 ((rm a b 0:Nat):Int)) rfl (sz (a%b)) (hbt) ?_;(focus rfl))|(refine qd0 (ty:=122) rfl ?_;refine wpList_store_row ?_ 122 _ _ rfl (w.heap.size+1+1) (sz (a / b)) rfl rfl _ (_) (l2) Q8Q Q8P (qfo _) ?_;(focus rfl))|(refine qd0 (ty:=122) rfl ?_;refine wpList_store_row ?_ 122 _ _ rfl (w.heap.size+1+1+1) (sz (a%b)) rfl rfl _ (_) (l3.rowOther (w.heap.size+1+1) (sz (a / b)) Q8E) Q8Q Q8P (qfo _) ?_;(focus rfl))|fail)
    have m2:=(l2.row (sz (a / b))).rowOther (w.heap.size+1+1+1) (sz (a%b)) Q8E;have m3:=(l3.rowOther (w.heap.size+1+1) (sz (a / b)) Q8E).row (sz (a%b));have h2:=run_loadVar_row (P:=prog) _ _ _ 122 _ _ _ m2 underlying122 rfl Q8Q;have h3:=run_loadVar_row (P:=prog) _ _ _ 122 _ _ _ m3 underlying122 rfl Q8Q;exact bodyPost_ret Q7Z rfl ⟨rfl,below_setRow (below_setRow hB1 Q8E _) Q8E _⟩
   | n+1,hn=>
    have e1:((n+1:Nat):Int)-1=n:=by omega
    rw[e1];have i0:(0:Int)<=(n:Int):=by omega
    have i1:(n:Int)<16:=by omega
    have i2:(n:Int)<=16:=by omega
    have i3:(n:Int).toNat=n:=by omega
    have c0:=l0.cell (qmv a n Q8E);have c1:=l1.cell (qmv b 0 Q8E);rw[show dg b 0=b by rw[qhd b hb];rfl] at c1;have c4:=l4.cell (qfd 16 (jgi a b (n+1)) n Q8E);have f4:=l4.frozen n;have hz:=hB1.size
    go_wp2_with fail
    go_region_held3 (λw'=>w'.cell? ⟨w.heap.size,n,none⟩=some (.int .u64 (dg a n:Nat))/\w'.cell? ⟨w.heap.size+1,0,none⟩=some (.int .u64 (b:Nat))) (first|exact⟨c0,c1⟩|exact⟨k0,k1⟩|(refine⟨?_,?_⟩<;>(repeat (first|with_reducible assumption|with_reducible refine qmb ?_|with_reducible refine qk8 ?_|with_reducible refine qn0 ?_|with_reducible refine qnz ?_ (by first|(simp only[ne_eq,Addr.mk.injEq,and_true];omega)|(simp;done)|(simp;omega))));done)|(go_keep;done))
     (first|(go_at_call 233;refine(H n _ Q8E).mono ?_;rintro e w1 ⟨rfl,hbw⟩;have m0:=l0.drew.below hbw l0.lt;have m1:=l1.drew.below hbw l1.lt;have m2:=l2.drew.below hbw l2.lt;have m3:=l3.drew.below hbw l3.lt;have m4:=l4.drew.below hbw l4.lt;have hB:=hB1.drew.trans (hbw.mono hz);have k0:=m0.cell (qmv a n Q8E);have k1:=m1.cell (show(sz b)[0]?=some (.int .u64 (b:Nat)) by rw[qmv b 0 Q8E,qhd b hb];rfl);have k4:=m4.cell (qfd 16 (jgi a b (n+1)) n Q8E);have kf:=m4.frozen n))
    all_goals
     go_wp2_with fail
     go_roundw
    all_goals first
     | (case measure=>simp[intOf])
     | (case rel=>
       refine⟨n,by omega,rfl,rfl,m0.setOther _ _ Q9l,m1.setOther _ _ Q9l,m2.setOther _ _ Q9l,m3.setOther _ _ Q9l,?_,hB.setCell (by show w.heap.size<=w.heap.size+1+1+1+1;omega) _⟩;have hs:=m4.set n (.int .u64 (dg (a / b) n:Nat));rw[qle 16 (jgi a b (n+1)) (jgi a b n) n _ Q8E (by rw[qyx]) (λj _ hj=>qqs a b n j hj)] at hs;exact hs)
end Go.Proofs.YtfkngpmgcimdbaaGreat


namespace Go.Proofs.YtfkngpmgcimdbaaGreat.Knuth
abbrev h:Nat:=4294967296
variable{y1 y0 u d q r:Nat}
structure Guess(y1 y0 u d q r:Nat):Prop where
 sum:q*y1+r=u
 ge:(u*h+d) / (y1*h+y0)<=q
 le:q<=h+1
theorem digit_lt(hd:d<h)(hu:u<y1*h+y0):(u*h+d) / (y1*h+y0)<h:=by
 rw[xQ Q8E]
 grind
theorem first(hy1:2147483648<=y1)(hy1':y1<h)(hy0:y0<h)(hd:d<h)(hu:u<y1*h+y0):Guess y1 y0 u d (u / y1) (u%y1):=by
 have hp:0<y1:=by omega
 refine⟨by rw[xm];exact xu u y1,?_,?_⟩
 ·-- the digit is at most u / y1
  have e1:(u*h+d) / (y1*h+y0)<=(u*h+d) / (y1*h):=Nat.div_le_div_left Q8E (by simp only[h];omega);have e2:(u*h+d) / (y1*h)=u / y1:=by
   rw[xm y1,<-xU,xm u,yK Q8I,xK hd,xZ]
  omega
 .have:u / y1<h+2:=by
   rw[xQ hp,xO]
   grind
  omega
theorem qyz(hp:0<y1*h+y0)(hs:q*y1+r=u)(hg:h*r+d<q*y0):(u*h+d) / (y1*h+y0)<q:=by
 rw[xQ hp]
 grind
theorem jpv(hp:0<y1*h+y0)(hs:q*y1+r=u)(hg:q*y0<=h*r+d):q<=(u*h+d) / (y1*h+y0):=by
 rw[yT hp]
 grind
theorem down(hd:d<h)(hu:u<y1*h+y0)(g:Guess y1 y0 u d q r)(ht:h<=q\/h*r+d<q*y0):0<q/\Guess y1 y0 u d (q-1) (r+y1):=by
 have hp:0<y1*h+y0:=by omega
 have hlt:=digit_lt hd hu;have hq:(u*h+d) / (y1*h+y0)<q:=by
  rcases ht with h1|h1
  .omega
  .exact qyz hp g.sum h1
 have h0:0<q:=xM (xn _) hq;obtain⟨k,rfl⟩:∃k,q=k+1:=⟨q-1,by omega⟩;refine⟨h0,⟨?_,by simp only[Nat.add_sub_cancel];omega,by have:=g.le;simp only[Nat.add_sub_cancel];omega⟩⟩;have:=g.sum
 grind
theorem stop(hd:d<h)(hu:u<y1*h+y0)(g:Guess y1 y0 u d q r)(hq:q<h)(ht:q*y0<=h*r+d):q=(u*h+d) / (y1*h+y0):=by
 have:=jpv Q8E g.sum ht;have:=g.ge;omega
theorem stop'(hy0:y0<h)(hd:d<h)(hu:u<y1*h+y0)(g:Guess y1 y0 u d q r)(hq:q<=h)(hr:h<=r):q=(u*h+d) / (y1*h+y0):=by
 have e1:q*y0<=h*y0:=xV _ hq;have e2:h*h<=h*r:=yM _ hr;have e3:h*y0<=h*h:=yM _ (Nat.le_of_lt hy0);have:=jpv Q8E g.sum (show q*y0<=h*r+d by omega);have:=g.ge;omega
theorem two(u d1 d0 Y:Nat)(hY:0<Y):(u*h*h+d1*h+d0) / Y=(u*h+d1) / Y*h+((u*h+d1)%Y*h+d0) / Y/\(u*h*h+d1*h+d0)%Y=((u*h+d1)%Y*h+d0)%Y:=by
 have e0:=xu (u*h+d1) Y;have e:u*h*h+d1*h+d0=Y*((u*h+d1) / Y*h)+((u*h+d1)%Y*h+d0):=by
  grind
 rw[e,yK hY,zj];omega
theorem words(hi lo s:Nat)(hs:s<64):(hi*18446744073709551616+lo)*2^s=(hi*2^s+lo / 2^(64-s))*18446744073709551616+lo*2^s%18446744073709551616:=by
 have e:(18446744073709551616:Nat)=2^(64-s)*2^s:=by rw[<-x8,show 64-s+s=64 by omega]
 grind[Nat.mul_div_mul_right,xu]
theorem back(n y s:Nat):n*2^s / (y*2^s)=n / y/\n*2^s%(y*2^s) / 2^s=n%y:=by
 grind[Nat.mul_div_mul_right,Nat.mul_mod_mul_right,zv]
theorem join(u l d1 d0:Nat)(el:l=d1*4294967296+d0):u*18446744073709551616+l=u*h*h+d1*h+d0:=by
 grind
end Go.Proofs.YtfkngpmgcimdbaaGreat.Knuth


namespace Go.Proofs.YtfkngpmgcimdbaaGreat
open Go.RowKit
def d64q(hi lo y:Nat):Nat:=(hi*18446744073709551616+lo) / y
def d64r(hi lo y:Nat):Nat:=(hi*18446744073709551616+lo)%y
theorem q5l(y:Nat)(hy:y<18446744073709551616)(w:World):Calls prog 234 #[.int .u64 y] w λe w'=>e=.returned (xc (64-(lb y:Int)))/\w=w':=
 (Tryz.bits_LeadingZeros64 y w Q8E Q8E).mono λe w' h=>⟨h.1,h.2.symm⟩
theorem qv3(y:Nat)(h0:0<y)(hy:y<18446744073709551616):∃s:Nat,s<64/\(64:Int)-(lb y:Int)=(s:Int)/\9223372036854775808<=y*2^s/\y*2^s<18446744073709551616:=by
 obtain⟨b1,b2⟩:=qd1 64 y hy;obtain⟨b3,b4⟩:=b2 Q8E;have e:Lib.bitLenAux 64 y=lb y:=rfl;rw[e] at b1 b3 b4;have hl:=jj9 y hy;refine⟨64-lb y,by omega,by omega,?_,?_⟩
 .have:2^(lb y-1)*2^(64-lb y)=9223372036854775808:=by
   rw[<-x8,show lb y-1+(64-lb y)=63 by omega]
  rw[<-this];exact xV _ b3
 .have:2^lb y*2^(64-lb y)=18446744073709551616:=by
   rw[<-x8,show lb y+(64-lb y)=64 by omega]
  rw[<-this];exact yN b1 (yd Q8I)
theorem qy0(x:Nat)(hx:x<18446744073709551616):bits .and .u64 (x:Int) 4294967295=((x%4294967296:Nat):Int):=by
 have:=(bits_nat .u64 64 Q8I (λn h0 h1=>by rw[xk];omega) x 4294967295 hx Q8I).1;refine this.trans ?_;rw[show(4294967295:Nat)=2^32-1 from rfl,Nat.and_two_pow_sub_one_eq_mod]
theorem q2t(hi lo s:Nat)(hs:s<64)(h1:hi*2^s<18446744073709551616)(hlo:lo<18446744073709551616):
  bits .or .u64 (IntKind.u64.wrap ((hi:Int)*2^s)) ((lo:Int) / 2^(64-s))=((hi*2^s+lo / 2^(64-s):Nat):Int):=by
 by_cases h0:0<s
 .grind[jka]
 .obtain rfl:s=0:=by omega
  rw[qgl,qdh,qqq _ _ (xo _ Q8I) (xM (yz _ _) hlo),xv h1];rw[show lo / 2^(64-0)=0 from xK hlo,Nat.or_zero,xZ]
theorem quc(hi lo y:Nat)(h0:0<hi)(h1:hi<y)(hlo:lo<18446744073709551616)(hy:y<18446744073709551616)(w:World):
  xa 233 #[.int .u64 hi,.int .u64 lo,.int .u64 y] w (.tuple #[.int .u64 (d64q hi lo y:Nat),.int .u64 (d64r hi lo y:Nat)]):=by
 have hB:Below w.heap.size w w:=Below.refl _ _
 have g1:((y:Int)==0)=false:=by simp;omega
 have g2:¬ (y:Int)<=hi:=by omega
 have g3:((hi:Int)==0)=false:=by simp;omega
 obtain⟨s,hs,hs',hY1,hY2⟩:=qv3 y Q8E hy
 have hp:0<2^s:=yd Q8I
 have hhi:hi*2^s<18446744073709551616:=xA (yN h1 hp) hY2
 have hW:=Knuth.words hi lo s hs
 have hbk:=Knuth.back (hi*18446744073709551616+lo) y s
 have hN:hi*18446744073709551616+lo<y*18446744073709551616:=by omega
 have hN2:(hi*18446744073709551616+lo)*2^s<y*2^s*18446744073709551616:=by
  rw[zg];exact yN hN hp
 have f1:IntKind.u64.wrap ((y:Int)*2^s)=((y*2^s:Nat):Int):=by rw[qgl,xv hY2]
 have f4:=q2t hi lo s hs hhi hlo
 have f5:=qgl lo s
 have hl64:lo*2^s%18446744073709551616<18446744073709551616:=xo _ Q8I
 have hlo2:lo / 2^(64-s)<=lo:=yz _ _
 rw[hW] at hbk hN2
 generalize hYY:y*2^s=Y at *
 generalize hu:hi*2^s+lo / 2^(64-s)=u at *
 generalize hl:lo*2^s%18446744073709551616=l at *
 have huY:u<Y:=by omega
 clear hW hN hN2 hYY hu hl hhi hp hlo2
 have f2:(Y:Int) / 4294967296=((Y / 4294967296:Nat):Int):=rfl
 have f3:=qy0 Y hY2
 have f6:(l:Int) / 4294967296=((l / 4294967296:Nat):Int):=rfl
 have f7:=qy0 l hl64
 have eY:=xu Y 4294967296
 have el:=xu l 4294967296
 have y0h:=xo Y (show 0<4294967296 by decide)
 have d0h:=xo l (show 0<4294967296 by decide)
 have y1a:2147483648<=Y / 4294967296:=by omega
 have y1b:Y / 4294967296<4294967296:=by omega
 have d1h:l / 4294967296<4294967296:=by omega
 generalize Y / 4294967296=y1 at *
 generalize Y%4294967296=y0 at *
 generalize l / 4294967296=d1 at *
 generalize l%4294967296=d0 at *
 have HE:=Lib.hid (show Y=y1*4294967296+y0/\l=d1*4294967296+d0 from⟨by omega,by omega⟩)
 clear eY el
 have G:=Knuth.first (u:=u) (d:=d1) y1a y1b y0h d1h (by have:=HE.out.1;show u<y1*4294967296+y0;omega)
 have hq1:=G.le
 have hq2:=G.sum
 have hr1:=xo u (show 0<y1 by omega)
 have f8:(u:Int).tdiv y1=((u / y1:Nat):Int):=rfl
 have f8':(u:Int) / y1=((u / y1:Nat):Int):=rfl
 generalize u / y1=q at *
 generalize u%y1=r at *
 have hqy:((q*y1:Nat):Int)=(q:Int)*(y1:Int):=yh _ _
 have f9:IntKind.u64.wrap ((q:Int)*(y1:Int))=((q*y1:Nat):Int):=by rw[xk,<-hqy];omega
 have f10:IntKind.u64.wrap ((u:Int)-((q*y1:Nat):Int))=(r:Int):=by rw[xk];omega
 have f11:IntKind.u64.wrap (q:Int)=(q:Int):=by rw[xk];simp only[Knuth.h] at hq1;omega
 generalize hqq:q*y1=qy at *
 clear hqy hqq hq2
 go_enter func233,Tryz.ntmps233
 go_wp2_with fail
 refine(q5l y hy _).mono ?_
 rintro e w' ⟨rfl,rfl⟩
 rw[hs']
 clear hs'
 go_wp2_with fail
 clear f1 f2 f3 f4 f5 f6 f7 f8 f8' f9 f10 f11 g1 g2 g3
 have hr2:r<4294967296:=by omega
 have HG:=Lib.hid G
 clear G hq1 hr1
 go_loopw [15,16] (λa b wr=>wr=w/\∃q r:Nat,a=.int .u64 q/\b=.int .u64 r/\r<4294967296/\Hid (Knuth.Guess y1 y0 u d1 q r)) (λa b _=>(intOf a).toNat)
 case atStart=>exact⟨rfl,_,_,rfl,rfl,hr2,HG⟩
 case round=>
  clear HG hr2
  obtain⟨e0,q,r,rfl,rfl,hr2,HG⟩:=hrel
  have e0':=e0.symm
  clear e0
  subst e0'
  have hu':u<y1*Knuth.h+y0:=by have:=HE.out.1;show u<y1*4294967296+y0;omega
  have hq1:q<=4294967297:=HG.out.le
  obtain⟨m,hm⟩:∃m:Nat,q*y0=m:=⟨_,rfl⟩
  have hm1:m<=4294967297*4294967295:=by rw[<-hm];exact ym hq1 Q8E
  have e1:IntKind.u64.wrap ((q:Int)*(y0:Int))=(m:Int):=by
   rw[<-yh,hm,xk];omega
  obtain⟨k0,hk0⟩:∃k:Nat,4294967296*r=k:=⟨_,rfl⟩
  have e2:IntKind.u64.wrap (4294967296*(r:Int))=(k0:Int):=by rw[xk];omega
  obtain⟨k,hk⟩:∃k:Nat,k0+d1=k:=⟨_,rfl⟩
  have e3:IntKind.u64.wrap ((k0:Int)+(d1:Int))=(k:Int):=by rw[xk];omega
  have hkk:Knuth.h*r+d1=k:=by simp only[Knuth.h];omega
  have hdn:Knuth.h<=q\/k<m->0<q/\Knuth.Guess y1 y0 u d1 (q-1) (r+y1):=λht=>Knuth.down d1h hu' HG.out (by rw[hkk,hm];exact ht)
  have hst:q<Knuth.h->m<=k->q=(u*Knuth.h+d1) / (y1*Knuth.h+y0):=λh1 h2=>Knuth.stop d1h hu' HG.out h1 (by rw[hkk,hm];exact h2)
  obtain⟨r',hr'⟩:∃r',r+y1=r':=⟨_,rfl⟩
  have e5:IntKind.u64.wrap ((r:Int)+(y1:Int))=(r':Int):=by rw[xk];omega
  have hr3:r'<18446744073709551616:=by omega
  rw[hr'] at hdn
  have HH:=Lib.hid hdn
  have HS:=Lib.hid hst
  have hq64:(q:Int)<18446744073709551616:=by omega
  clear hm hk0 hk hkk hdn hst hm1 hr'
  by_cases hA:4294967296<=q
  .have HT:Hid (Knuth.h<=q\/k<m):=.inl hA;have t1:decide ((q:Int)>=4294967296)=true:=xf Q8E;have t1':(4294967296:Int)<=(q:Int):=by omega
   clear hA;exact Q12
  .by_cases hB:k<m
   .have HT:Hid (Knuth.h<=q\/k<m):=.inr hB;have t1:¬ (4294967296:Int)<=(q:Int):=by omega
    have t2:(k:Int)<(m:Int):=by omega
    clear hA hB;exact Q12
   .have HF:=Lib.hid (HS.out Q9x Q8E);have t1:¬ (4294967296:Int)<=(q:Int):=by omega
    have t2:¬ (k:Int)<(m:Int):=by omega
    clear hA hB hq1;have hdq1:(u*4294967296+d1) / Y=q:=by rw[HE.out.1];exact HF.out.symm
    have hq1h:q<4294967296:=by rw[<-hdq1,HE.out.1];exact Knuth.digit_lt (y1:=y1) (y0:=y0) d1h hu'
    have HD1:=Lib.hid hdq1;have aE:=xu (u*4294967296+d1) Y;have aQ:(u*4294967296+d1) / Y=q:=hdq1;rw[aQ] at aE;have aL:=xo (u*4294967296+d1) (show 0<Y by omega);obtain⟨v,vE⟩:∃z,(u*4294967296+d1)%Y=z:=⟨_,rfl⟩;rw[vE] at aE aL;obtain⟨aC,aCE⟩:∃c,q*Y%18446744073709551616=c:=⟨_,rfl⟩;have a3:IntKind.u64.wrap ((q:Int)*(Y:Int))=(aC:Int):=by rw[<-yh,xk];omega
    rw[xm Y] at aE;obtain⟨aA,aAE⟩:∃c,u*4294967296%18446744073709551616=c:=⟨_,rfl⟩;have a1:IntKind.u64.wrap ((u:Int)*4294967296)=(aA:Int):=by rw[xk];omega
    obtain⟨aB,aBE⟩:∃c,(aA+d1)%18446744073709551616=c:=⟨_,rfl⟩;have a2:IntKind.u64.wrap ((aA:Int)+(d1:Int))=(aB:Int):=by rw[xk];omega
    have a4:IntKind.u64.wrap ((aB:Int)-(aC:Int))=(v:Int):=by
     rw[xk];generalize q*Y=P at *;omega
    have Hv:=Lib.hid vE;clear aE aCE aAE aBE vE;have hvY:v<Y:=aL;clear aQ hdq1 aL HF;obtain⟨qa,rfl⟩:∃c,c=q:=⟨_,rfl⟩;exact Q01
open Go Go.RowKit Sx
theorem qal(neg over:Bool)(v:Nat):qan (.agg ⟨wiL neg over v⟩)=true:=qag neg over v
theorem cMade(neg:Bool)(v:Nat)(h:Hp)(hv:v<Top):qae prog 154 [.bool neg,.agg ⟨limL 16 (dg v)⟩] h (.agg ⟨wiL (neg&&decide (v≠0)) false v⟩) [] []:=
 qai (by simp[qaf];rfl) (qal _ _ _) (call154 _) λw=>by
  have:=q2r neg v hv w;rw[jlk] at this;exact this
theorem cOf(n:Int)(h:Hp)(h0 : -9223372036854775808<=n)(h1:n<9223372036854775808):qae prog 98 [xc n] h (.agg ⟨wiL (decide (n<0)) false n.natAbs⟩) [] []:=
 qai rfl (qal _ _ _) (call98 _) λw=>by
  have:=q7i n h0 h1 w;unfold zi at this;rw[jlk] at this;exact this
theorem qmw{o:Bool}{n m p:Nat}{f:Nat->Nat}(hp:p+m<=n):Reads ⟨o,n,[(0,n,.agg ⟨limL n f⟩)]⟩ p true m (.agg ⟨limL m λk=>f (p+k)⟩):=by
 refine⟨hp,_,rfl,qdf _ _,λk hk=>?_⟩;refine Q3o ?_;simp only[cellIn];rw[qf2 hk,show p+k-0=p+k from rfl,qf2 Q8E]
theorem qmx{n:Nat}{ps:Pz}{v:Value}:Writes ⟨true,n,ps⟩ 0 n v ⟨true,n,[(0,n,v)]⟩:=by
 refine⟨rfl,by show 0+n<=n;omega,rfl,λk hk=>?_⟩;have hk:k<n:=hk;show qbf _ _=_;rw[qar,if_pos Q8E,if_pos Q8E]
def mT(v u i:Nat):Nat:=v%Bs^i*u
def mX(v u i j:Nat):Nat:=mT v u i+Bs^i*dg v i*(u%Bs^j)
def mC(v u i j:Nat):Nat:=mX v u i j / Bs^(i+j)-mT v u i / Bs^(i+j)
def mA(v u i j k:Nat):Nat:=if k<i+j then dg (mX v u i j) k else dg (mT v u i) k
theorem qy1(v u i:Nat):mX v u i 0=mT v u i:=by simp[mX,yo]
theorem qy2(v u i:Nat):mC v u i 0=0:=by simp[mC,qy1]
theorem q7k(v u i k:Nat):mA v u i 0 k=dg (mT v u i) k:=by unfold mA;rw[qy1];split<;>rfl
theorem q7l(v u:Nat):mT v u 0=0:=by simp[mT,yo]
theorem qy3(v u i j:Nat):mX v u i (j+1)=mX v u i j+Bs^(i+j)*(dg v i*dg u j):=by
 unfold mX;rw[qkg,yH,<-yi,x8];congr 1;simp only[x5,Nat.mul_left_comm]
theorem jnh(v u i j:Nat):mT v u i<=mX v u i j:=Nat.le_add_right _ _
theorem q5m(v u i j:Nat):mX v u i j / Bs^(i+j)=mT v u i / Bs^(i+j)+mC v u i j:=by
 unfold mC;have:=Nat.div_le_div_right (c:=Bs^(i+j)) (jnh v u i j);omega
theorem qy4(v u i j:Nat):mX v u i (j+1) / Bs^(i+j)=mT v u i / Bs^(i+j)+mC v u i j+dg v i*dg u j:=by
 rw[qy3,Nat.add_mul_div_left _ _ (qb3 _),q5m]
theorem qy5(v u i j:Nat):mC v u i (j+1)=(dg v i*dg u j+dg (mT v u i) (i+j)+mC v u i j) / 18446744073709551616:=by
 have h:=qy4 v u i j;have hs:=qdy (mT v u i) (i+j);have h2:mX v u i (j+1) / Bs^(i+(j+1))=mX v u i (j+1) / Bs^(i+j) / Bs:=by
  rw[xU,show i+(j+1)=(i+j)+1 from rfl,yn]
 generalize hc:mC v u i j=c at *;show mX v u i (j+1) / Bs^(i+(j+1))-mT v u i / Bs^(i+(j+1))=_;rw[h2,h,hs,show i+(j+1)=(i+j)+1 from rfl];rw[show mT v u i / Bs^(i+j+1)*Bs+dg (mT v u i) (i+j)+c+dg v i*dg u j=Bs*(mT v u i / Bs^(i+j+1))+(dg v i*dg u j+dg (mT v u i) (i+j)+c) by rw[xm];omega];rw[yK qbu,Nat.add_sub_cancel_left]
theorem jbf(v u i j:Nat):dg (mX v u i (j+1)) (i+j)=(dg v i*dg u j+dg (mT v u i) (i+j)+mC v u i j)%18446744073709551616:=by
 have h:=qy4 v u i j;have hs:=qdy (mT v u i) (i+j);show mX v u i (j+1) / Bs^(i+j)%Bs=_;rw[h,hs];rw[show mT v u i / Bs^(i+j+1)*Bs+dg (mT v u i) (i+j)+mC v u i j+dg v i*dg u j=Bs*(mT v u i / Bs^(i+j+1))+(dg v i*dg u j+dg (mT v u i) (i+j)+mC v u i j) by rw[xm];omega];rw[zj]
theorem qud{a b t c:Nat}(ha:a<18446744073709551616)(hb:b<18446744073709551616)(ht:t<18446744073709551616)(hc:c<18446744073709551616):(a*b+t+c) / 18446744073709551616<18446744073709551616:=by
 have:a*b<=18446744073709551615*18446744073709551615:=ym Q8E Q8E;omega
theorem jkb(v u i:Nat):∀j,mC v u i j<18446744073709551616
 | 0=>by rw[qy2];decide
 | j+1=>by rw[qy5];exact qud (jeu _ _) (jeu _ _) (jeu _ _) (jkb v u i j)
theorem jbg(x y p k:Nat)(h:k<p):dg (x+Bs^p*y) k=dg x k:=by
 rw[<-qd4 (x+Bs^p*y) p k h,Nat.add_mul_mod_self_left,qd4 x p k h]
theorem q7m(v u i j k:Nat)(h:k≠i+j):mA v u i (j+1) k=mA v u i j k:=by
 unfold mA;by_cases hk:k<i+j
 .rw[if_pos hk,if_pos Q8E,qy3,jbg _ _ _ _ hk]
 .rw[if_neg hk,if_neg Q8E]
theorem jni(v u i j:Nat):mA v u i (j+1) (i+j)=(dg v i*dg u j+dg (mT v u i) (i+j)+mC v u i j)%18446744073709551616:=by
 unfold mA;rw[if_pos Q8E,jbf]
theorem jbh(v u i j:Nat):mA v u i j (i+j)=dg (mT v u i) (i+j):=by unfold mA;rw[if_neg Q8E]
theorem jbi(v u i n:Nat)(hu:u<Bs^n):mX v u i n=mT v u (i+1):=by
 unfold mX mT;rw[xv hu,qkg,xO]
theorem jkc(v u i n:Nat)(hu:u<Bs^n):mT v u i<Bs^(i+n):=by
 unfold mT;rw[x8];have h1:=xo v (qb3 i);exact y9 h1 hu
theorem qy6(v u i n k:Nat)(hu:u<Bs^n):dg (mT v u (i+1)) k=if k<i+n then mA v u i n k else if k=i+n then mC v u i n else dg (mT v u i) k:=by
 have hx:=jbi v u i n hu;have h0:mT v u i / Bs^(i+n)=0:=xK (jkc v u i n hu);by_cases h1:k<i+n
 .rw[if_pos h1];unfold mA;rw[if_pos h1,hx]
 .rw[if_neg h1];by_cases h2:k=i+n
  .rw[if_pos h2];subst h2;have h3:=q5m v u i n;rw[h0,xr,hx] at h3;show mT v u (i+1) / Bs^(i+n)%Bs=_;rw[h3,xv (jkb v u i n)]
  .rw[if_neg h2];have h4:i+n<=k:=by omega
   have h5:Bs^(i+n)<=Bs^k:=xW qbu h4;have h6:Bs^(i+1+n)<=Bs^k:=xW qbu Q8E;rw[qbv _ _ (xl (jkc v u i n hu) h5),qbv _ _ (xl (jkc v u (i+1) n hu) h6)]
theorem q7n(v u i n k:Nat)(h:i+n<=k):mA v u i n k=dg (mT v u i) k:=by unfold mA;rw[if_neg Q8E]
theorem jbj(v u m:Nat)(hv:v<Bs^m):mT v u m=v*u:=by unfold mT;rw[xv hv]
end Go.Proofs.YtfkngpmgcimdbaaGreat
