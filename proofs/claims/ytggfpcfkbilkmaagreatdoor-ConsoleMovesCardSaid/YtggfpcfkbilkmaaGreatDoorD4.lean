/-
  The walk of All: all entries, by their nodes.
-/
import Derived.Test.YtggfpcfkbilkmaaGreatDoorRows
import Derived.Laws.Rows
import Derived.StillTailTactics
import Derived.Laws.CopyOwn
import Derived.Shelf.Small.Bits
import Derived.Shelf.Strconv.Itoa0
import Derived.Shelf.Bits.Mul64
import Derived.Laws.Externs
import Derived.Shelf.Spec.BitsCarry
import Derived.WalkKit
import Derived.Test.YtggfpcfkbilkmaaGreatDoorProg
import Derived.BigQuiet
import Derived.Deep.QuietTactic
import Derived.Deep.RegionHeld3
import Derived.Lib.EndianBits
import Derived.IntWalk
import Derived.Test.YtggfpcfkbilkmaaGreatDoorD3
set_option linter.unusedVariables false
set_option linter.unusedSimpArgs false
set_option maxRecDepth 100000
set_option maxHeartbeats 20000000
theorem Go.Proofs.xm:type_of% @Go.IntKind.wrap_u64:=@Go.IntKind.wrap_u64
theorem Go.Proofs.x9:type_of% @Nat.mul_le_mul:=@Nat.mul_le_mul
theorem Go.Proofs.xg:type_of% @decide_eq_true:=@decide_eq_true
theorem Go.Proofs.xj:type_of% @decide_eq_false:=@decide_eq_false
theorem Go.Proofs.yI:type_of% @Nat.div_div_eq_div_mul:=@Nat.div_div_eq_div_mul
theorem Go.Proofs.yJ:type_of% @Nat.pow_succ:=@Nat.pow_succ
theorem Go.Proofs.xV:type_of% @Nat.div_eq_of_lt:=@Nat.div_eq_of_lt
theorem Go.Proofs.xG:type_of% @Nat.pow_add:=@Nat.pow_add
theorem Go.Proofs.ya:type_of% @Nat.mod_eq_of_lt:=@Nat.mod_eq_of_lt
theorem Go.Proofs.yT:type_of% @Nat.mul_add_div:=@Nat.mul_add_div
theorem Go.Proofs.y3:type_of% @Nat.mul_add_mod:=@Nat.mul_add_mod
theorem Go.Proofs.yz:type_of% @Nat.pow_pos:=@Nat.pow_pos
theorem Go.Proofs.yU:type_of% @Nat.le_self_pow:=@Nat.le_self_pow
theorem Go.Proofs.ze:type_of% @Int.eq_ofNat_of_zero_le:=@Int.eq_ofNat_of_zero_le
theorem Go.Proofs.yK:type_of% @Nat.pow_zero:=@Nat.pow_zero
theorem Go.Proofs.xR:type_of% @Nat.mul_assoc:=@Nat.mul_assoc
theorem Go.Proofs.ye:type_of% @Nat.pow_le_pow_right:=@Nat.pow_le_pow_right
theorem Go.Proofs.yL:type_of% @Nat.div_le_self:=@Nat.div_le_self
theorem Go.Proofs.zg:type_of% @Nat.mul_lt_mul_of_pos_right:=@Nat.mul_lt_mul_of_pos_right
theorem Go.Proofs.yu:type_of% @Int.natAbs_mul:=@Int.natAbs_mul
open Go.Proofs.Tryz
namespace Go.Proofs
section
variable{Z Y:Prop}
theorem Q00(h:Z:=by
 have G:=Knuth.first (u:=v) (d:=d0) y1a y1b y0h d0h Q5E;have hq1:=G.le;have hq2:=G.sum;have hr1:=xB v (show 0<y1 by omega);have f8:(v:Int).tdiv y1=((v / y1:Nat):Int):=rfl;have f8':(v:Int) / y1=((v / y1:Nat):Int):=rfl;generalize v / y1=q0 at *;generalize v%y1=r0 at *;have hqy:((q0*y1:Nat):Int)=(q0:Int)*(y1:Int):=x5 _ _;have f9:IntKind.u64.wrap ((q0:Int)*(y1:Int))=((q0*y1:Nat):Int):=by rw[xm,<-hqy];omega
 have f10:IntKind.u64.wrap ((v:Int)-((q0*y1:Nat):Int))=(r0:Int):=by rw[xm];omega
 have f11:IntKind.u64.wrap (q0:Int)=(q0:Int):=by rw[xm];simp only[Knuth.h] at hq1;omega
 generalize hqq:q0*y1=qy at *;clear hqy hqq hq2
 go_wp2_with fail
 clear f8 f8' f9 f10 f11 a1 a2 a3 a4 e1 e2 e3 e5;have hr2':r0<4294967296:=by omega
 have HG':=Lib.hid G;clear G hq1 hr1 HG hr2 HH HS;have hr2:=hr2';have HG:=HG';clear hr2' HG'
 go_loopw [16,18] (λa b wr=>wr=w/\∃q r:Nat,b=.int .u64 q/\a=.int .u64 r/\r<4294967296/\Hid (Knuth.Guess y1 y0 v d0 q r)) (λa b _=>(intOf b).toNat)
 case atStart=>exact⟨rfl,_,_,rfl,rfl,hr2,HG⟩
 case round=>
  clear HG hr2
  obtain⟨e0,q,r,rfl,rfl,hr2,HG⟩:=hrel
  have e0':=e0.symm
  clear e0
  subst e0'
  have hu':v<y1*Knuth.h+y0:=by have:=HE.out.1;show v<y1*4294967296+y0;omega
  have hq1:q<=4294967297:=HG.out.le
  obtain⟨m,hm⟩:∃m:Nat,q*y0=m:=⟨_,rfl⟩
  have hm1:m<=4294967297*4294967295:=by rw[<-hm];exact x9 hq1 Q4P
  have e1:IntKind.u64.wrap ((q:Int)*(y0:Int))=(m:Int):=by
   rw[<-x5,hm,xm];omega
  obtain⟨k0,hk0⟩:∃k:Nat,4294967296*r=k:=⟨_,rfl⟩
  have e2:IntKind.u64.wrap (4294967296*(r:Int))=(k0:Int):=by rw[xm];omega
  obtain⟨k,hk⟩:∃k:Nat,k0+d0=k:=⟨_,rfl⟩
  have e3:IntKind.u64.wrap ((k0:Int)+(d0:Int))=(k:Int):=by rw[xm];omega
  have hkk:Knuth.h*r+d0=k:=by simp only[Knuth.h];omega
  have hdn:Knuth.h<=q\/k<m->0<q/\Knuth.Guess y1 y0 v d0 (q-1) (r+y1):=λht=>Knuth.down d0h hu' HG.out (by rw[hkk,hm];exact ht)
  have hst:q<Knuth.h->m<=k->q=(v*Knuth.h+d0) / (y1*Knuth.h+y0):=λh1 h2=>Knuth.stop d0h hu' HG.out h1 (by rw[hkk,hm];exact h2)
  obtain⟨r',hr'⟩:∃r',r+y1=r':=⟨_,rfl⟩
  have e5:IntKind.u64.wrap ((r:Int)+(y1:Int))=(r':Int):=by rw[xm];omega
  have hr3:r'<18446744073709551616:=by omega
  rw[hr'] at hdn
  have HH:=Lib.hid hdn
  have HS:=Lib.hid hst
  have hq64:(q:Int)<18446744073709551616:=by omega
  clear hm hk0 hk hkk hdn hst hm1 hr'
  by_cases hA:4294967296<=q
  .have HT:Hid (Knuth.h<=q\/k<m):=.inl hA;have t1:decide ((q:Int)>=4294967296)=true:=xg Q4P;have t1':(4294967296:Int)<=(q:Int):=by omega
   clear hA;exact Q0Y
  .by_cases hB:k<m
   .have HT:Hid (Knuth.h<=q\/k<m):=.inr hB;have t1:¬ (4294967296:Int)<=(q:Int):=by omega
    have t2:(k:Int)<(m:Int):=by omega
    clear hA hB;exact Q0Y
   .have HF:=Lib.hid (HS.out Q5I Q4P);have t1:¬ (4294967296:Int)<=(q:Int):=by omega
    have t2:¬ (k:Int)<(m:Int):=by omega
    clear hA hB hq1;have hdq:(v*4294967296+d0) / Y=q:=by rw[HE.out.1];exact HF.out.symm
    have hq0:q<4294967296:=by rw[<-hdq,HE.out.1];exact Knuth.digit_lt (y1:=y1) (y0:=y0) d0h Q5E
    have bE:=xK (v*4294967296+d0) Y;have bQ:(v*4294967296+d0) / Y=q:=hdq;rw[bQ] at bE;have bL:=xB (v*4294967296+d0) (show 0<Y by omega);obtain⟨R,RE⟩:∃z,(v*4294967296+d0)%Y=z:=⟨_,rfl⟩;rw[RE] at bE bL;obtain⟨bC,bCE⟩:∃c,q*Y%18446744073709551616=c:=⟨_,rfl⟩;have b3:IntKind.u64.wrap ((q:Int)*(Y:Int))=(bC:Int):=by rw[<-x5,xm];omega
    rw[xq Y] at bE;obtain⟨bA,bAE⟩:∃c,v*4294967296%18446744073709551616=c:=⟨_,rfl⟩;have b1:IntKind.u64.wrap ((v:Int)*4294967296)=(bA:Int):=by rw[xm];omega
    obtain⟨bB,bBE⟩:∃c,(bA+d0)%18446744073709551616=c:=⟨_,rfl⟩;have b2:IntKind.u64.wrap ((bA:Int)+(d0:Int))=(bB:Int):=by rw[xm];omega
    have b4:IntKind.u64.wrap ((bB:Int)-(bC:Int))=(R:Int):=by
     rw[xm];generalize q*Y=P at *;omega
    have HR0':=Lib.hid RE;clear bE bCE bAE bBE RE;obtain⟨Q1,hQ1⟩:∃c:Nat,qa*4294967296=c:=⟨_,rfl⟩;have c1:IntKind.u64.wrap ((qa:Int)*4294967296)=(Q1:Int):=by rw[xm];omega
    obtain⟨Q,hQ⟩:∃c:Nat,Q1+q=c:=⟨_,rfl⟩;have c2:IntKind.u64.wrap ((Q1:Int)+(q:Int))=(Q:Int):=by rw[xm];omega
    have HR:Hid (Q=d64q hi lo y/\R / 2^s=d64r hi lo y):=by
     show Q=(hi*18446744073709551616+lo) / y/\R / 2^s=(hi*18446744073709551616+lo)%y;have e2:=Knuth.two u d1 d0 Y Q4P;have el:=HE.out.2;have eN:u*18446744073709551616+l=u*Knuth.h*Knuth.h+d1*Knuth.h+d0:=Knuth.join u l d1 d0 el;rw[<-eN] at e2;rw[<-hbk.1,<-hbk.2,e2.1,e2.2];have x1:(u*Knuth.h+d1) / Y=qa:=HD1.out;have x2:(u*Knuth.h+d1)%Y=v:=Hv.out;have x3:(v*Knuth.h+d0) / Y=q:=hdq;have x4:(v*Knuth.h+d0)%Y=R:=HR0'.out;rw[x1,x2,x3,x4];refine⟨?_,rfl⟩;show Q=qa*4294967296+q;rw[<-hQ,<-hQ1]
    exact Q1W):Z:=h
theorem Q05(k:Y)(h:Wr Y->Z:=by
 intro kQ;repeat' (refine Ba ?_;first|refine Q2O ?_|refine Q2M ?_|refine Q3t ?_|refine Q35 ?_|fail)
 refine Ba ?_;exact kQ.o):Z:=h ⟨k⟩
theorem Q0b(h:Z:=by ·exact Q1X):Z:=h
theorem Q0h(k:Y)(h:Wr Y->Z:=by
 intro kQ;refine qah (G:=tys) w tysOK mixed func152 Q4R Q4S Q4Q ?_;exact kQ.o):Z:=h ⟨k⟩
theorem Q0q(h:Z:=by
 go_wp2_with (first|(refine qcc (ty:=137) rfl ?_;refine wpList_load_row ?_ 137 _ rfl (w.heap.size+1) rfl _ (sz (v / 2^k)) _ _ (hrow') underlying137 rfl Q4Z ?_;(focus rfl))|(refine qbb (ty:=137) rfl ?_;refine wpList_store_row ?_ 137 _ _ rfl (w.heap.size) (sz (v / 2^k)) rfl rfl _ (_) (hres) Q4Z Q50 (qbx _) ?_;(focus rfl))|fail)
 have hl:=run_loadVar_row (P:=prog) (wr.setRow w.heap.size (sz (v / 2^k))) w.heap.size _ 137 (sz (v / 2^k)) _ _ (hres.row _) underlying137 rfl Q4Z;refine bodyPost_ret (v:=.tuple #[.agg (sz (v / 2^k)),.bool _]) (by simp[results,Tryz.results297,asAddr,hl];rfl) rfl ⟨⟨_,rfl⟩,below_setRow hbel (nlr _) _⟩):Z:=h
theorem Q0s(h:Z:=by
 repeat' (refine Ba ?_;first|refine Q2J ?_|refine Q3E ?_|refine Be (by rw[xD];unfold cm;split<;>(try split)<;>omega) ?_|with_reducible refine Bc (cMade _ _ _ (x8 (Nat.sub_le _ _) hu)) ?_|refine Q2W ?_|fail)
 all_goals rfl):Z:=h
theorem Q0t(h:Z:=by
 repeat' (refine Ba ?_;first|refine Q2J ?_|refine Q3E ?_|refine Bf (by rw[xu];unfold cm;split<;>(try split)<;>omega) ?_|with_reducible refine Bc (cMade _ _ _ (x8 (Nat.sub_le _ _) hv)) ?_|refine Q2W ?_|fail)
 all_goals rfl):Z:=h
theorem Q0y(h:Z:=by
 repeat' (refine Ba ?_;first|refine Q2J ?_|refine Bc (jcn _ _ _ _ _ _ _ (qdk Q4R) (qdk Q4R)) ?_|refine Be (by rw[qs6 _ _ (xM hs qb6)];decide) ?_|with_reducible refine Bc (cMade _ _ _ hs) ?_|refine Q2T ?_|fail)
 all_goals rfl):Z:=h
theorem Q0G(h:Z:=by
 rw[xm];generalize q'*Y=P at *;omega):Z:=h
theorem Q0R(h:Z:=by repeat (refine Ba ?_;first|exact Bd|refine Q2P ?_|refine Q3q ?_|refine Bb (qj6 Q5S) ?_)):Z:=h
theorem Q0T(h:Z:=by
 rw[<-qdc];have:=IsRow.new (w.alloc (.cells (sz 0) 137)) (sz 0) 137;rw[show(w.alloc (.cells (sz 0) 137)).heap.size=w.heap.size+1 by simp] at this;exact this):Z:=h
theorem Q0U(h:Z:=by
 simp only[Sem.run_bind];rw[show(Op.equal 137 (.agg ⟨limL 16 (dg u)⟩) (.agg #[.int .u64 0,.int .u64 0,.int .u64 0,.int .u64 0,.int .u64 0,.int .u64 0,.int .u64 0,.int .u64 0,.int .u64 0,.int .u64 0,.int .u64 0,.int .u64 0,.int .u64 0,.int .u64 0,.int .u64 0,.int .u64 0])).run prog w=.ok (decide (u=0)) w from he w];rfl):Z:=h
theorem Q0Y(h:Z:=by
 obtain⟨h0q,hG2⟩:=HH.out (HT.out);obtain⟨q',hq'⟩:∃q',q-1=q':=⟨_,rfl⟩;rw[hq'] at hG2;have HG2:=Lib.hid hG2;have e4:IntKind.u64.wrap ((q:Int)-1)=(q':Int):=by rw[xm];omega
 have HQ:=Lib.hid (show q=q'+1 by omega);have hq2:q'<=4294967296:=by omega
 clear hG2 hq' h0q hq1;by_cases hbr:(4294967296:Int)<=(r':Int)
 .have HF:=Lib.hid (Knuth.stop' y0h d0h hu' HG2.out hq2 Q5I);clear hq2;have hdq:(v*4294967296+d0) / Y=q':=by rw[HE.out.1];exact HF.out.symm
  have hq0:q'<4294967296:=by rw[<-hdq,HE.out.1];exact Knuth.digit_lt (y1:=y1) (y0:=y0) d0h Q5E
  have bE:=xK (v*4294967296+d0) Y;have bQ:(v*4294967296+d0) / Y=q':=hdq;rw[bQ] at bE;have bL:=xB (v*4294967296+d0) (show 0<Y by omega);obtain⟨R,RE⟩:∃z,(v*4294967296+d0)%Y=z:=⟨_,rfl⟩;rw[RE] at bE bL;obtain⟨bC,bCE⟩:∃c,q'*Y%18446744073709551616=c:=⟨_,rfl⟩;have b3:IntKind.u64.wrap ((q':Int)*(Y:Int))=(bC:Int):=by rw[<-x5,xm];omega
  rw[xq Y] at bE;obtain⟨bA,bAE⟩:∃c,v*4294967296%18446744073709551616=c:=⟨_,rfl⟩;have b1:IntKind.u64.wrap ((v:Int)*4294967296)=(bA:Int):=by rw[xm];omega
  obtain⟨bB,bBE⟩:∃c,(bA+d0)%18446744073709551616=c:=⟨_,rfl⟩;have b2:IntKind.u64.wrap ((bA:Int)+(d0:Int))=(bB:Int):=by rw[xm];omega
  have b4:IntKind.u64.wrap ((bB:Int)-(bC:Int))=(R:Int):=by
   rw[xm];generalize q'*Y=P at *;omega
  have HR0':=Lib.hid RE;clear bE bCE bAE bBE RE;obtain⟨Q1,hQ1⟩:∃c:Nat,qa*4294967296=c:=⟨_,rfl⟩;have c1:IntKind.u64.wrap ((qa:Int)*4294967296)=(Q1:Int):=by rw[xm];omega
  obtain⟨Q,hQ⟩:∃c:Nat,Q1+q'=c:=⟨_,rfl⟩;have c2:IntKind.u64.wrap ((Q1:Int)+(q':Int))=(Q:Int):=by rw[xm];omega
  have HR:Hid (Q=d64q hi lo y/\R / 2^s=d64r hi lo y):=by
   show Q=(hi*18446744073709551616+lo) / y/\R / 2^s=(hi*18446744073709551616+lo)%y;have e2:=Knuth.two u d1 d0 Y Q4P;have el:=HE.out.2;have eN:u*18446744073709551616+l=u*Knuth.h*Knuth.h+d1*Knuth.h+d0:=Knuth.join u l d1 d0 el;rw[<-eN] at e2;rw[<-hbk.1,<-hbk.2,e2.1,e2.2];have x1:(u*Knuth.h+d1) / Y=qa:=HD1.out;have x2:(u*Knuth.h+d1)%Y=v:=Hv.out;have x3:(v*Knuth.h+d0) / Y=q':=hdq;have x4:(v*Knuth.h+d0)%Y=R:=HR0'.out;rw[x1,x2,x3,x4];refine⟨?_,rfl⟩;show Q=qa*4294967296+q';rw[<-hQ,<-hQ1]
  exact Q1W
 .exact Q1X):Z:=h
theorem Q0Z(h:Z:=by
 obtain⟨h0q,hG2⟩:=HH.out (HT.out);obtain⟨q',hq'⟩:∃q',q-1=q':=⟨_,rfl⟩;rw[hq'] at hG2;have HG2:=Lib.hid hG2;have e4:IntKind.u64.wrap ((q:Int)-1)=(q':Int):=by rw[xm];omega
 have HQ:=Lib.hid (show q=q'+1 by omega);have hq2:q'<=4294967296:=by omega
 clear hG2 hq' h0q hq1;by_cases hbr:(4294967296:Int)<=(r':Int)
 .have HF:=Lib.hid (Knuth.stop' y0h d1h hu' HG2.out hq2 Q5I);clear hq2;have hdq1:(u*4294967296+d1) / Y=q':=by rw[HE.out.1];exact HF.out.symm
  have hq1h:q'<4294967296:=by rw[<-hdq1,HE.out.1];exact Knuth.digit_lt (y1:=y1) (y0:=y0) d1h hu'
  have HD1:=Lib.hid hdq1;have aE:=xK (u*4294967296+d1) Y;have aQ:(u*4294967296+d1) / Y=q':=hdq1;rw[aQ] at aE;have aL:=xB (u*4294967296+d1) (show 0<Y by omega);obtain⟨v,vE⟩:∃z,(u*4294967296+d1)%Y=z:=⟨_,rfl⟩;rw[vE] at aE aL;obtain⟨aC,aCE⟩:∃c,q'*Y%18446744073709551616=c:=⟨_,rfl⟩;have a3:IntKind.u64.wrap ((q':Int)*(Y:Int))=(aC:Int):=by rw[<-x5,xm];omega
  rw[xq Y] at aE;obtain⟨aA,aAE⟩:∃c,u*4294967296%18446744073709551616=c:=⟨_,rfl⟩;have a1:IntKind.u64.wrap ((u:Int)*4294967296)=(aA:Int):=by rw[xm];omega
  obtain⟨aB,aBE⟩:∃c,(aA+d1)%18446744073709551616=c:=⟨_,rfl⟩;have a2:IntKind.u64.wrap ((aA:Int)+(d1:Int))=(aB:Int):=by rw[xm];omega
  have a4:IntKind.u64.wrap ((aB:Int)-(aC:Int))=(v:Int):=by
   exact Q0G
  have Hv:=Lib.hid vE;clear aE aCE aAE aBE vE;have hvY:v<Y:=aL;clear aQ hdq1 aL HF;obtain⟨qa,rfl⟩:∃c,c=q':=⟨_,rfl⟩;exact Q00
 exact Q0b):Z:=h
theorem Q1J(h:Z:=by
 go_wp2_with fail
 go_roundw
 case rel=>exact⟨n+1,by omega,by go_num,hrow1,hres1,hbel1⟩
 case measure=>simp[intOf];omega):Z:=h
theorem Q1Q(h:Z:=by
 go_wp2_with fail
 go_roundw
 case rel=>exact⟨n,by omega,by go_num,hrow1,hres1,hbel1⟩
 case measure=>simp[intOf]):Z:=h
theorem Q1R(h:Z:=by
 match k,h with
 | 0,_=>rfl
 | 1,_=>rfl
 | 2,_=>rfl
 | 3,_=>rfl
 | 4,_=>rfl
 | 5,_=>rfl
 | 6,_=>rfl
 | 7,_=>rfl
 | 8,_=>rfl
 | 9,_=>rfl):Z:=h
theorem Q1W(h:Z:=by
 clear hQ hQ1 hdq hq0 bQ
 go_wp2_with fail
 exact bodyPost_ret (v:=.tuple #[.int .u64 (Q:Nat),.int .u64 ((R:Int) / 2^s)]) (by simp[results,Tryz.results293]) rfl ⟨by rw[qcd,HR.out.1,HR.out.2],hB⟩):Z:=h
theorem Q1X(h:Z:=by
 clear hq2
 go_wp2_with fail
 go_roundw
 case rel=>exact⟨by first|trivial|rfl,q',r',rfl,rfl,by omega,HG2⟩
 case measure=>have:=HQ.out;simp[intOf];omega):Z:=h
theorem Q20(h:Z:=by repeat (first|with_reducible exact hB|with_reducible refine Below.alloc ?_ Q4V _)):Z:=h
theorem Q2h(h:Z:=by
 have hv16:=xM hv qb6;have hu16:=xM hu qb6;refine Q0h ?_;exact Q0y):Z:=h
theorem Q2i(h:Z:=by
 have hv16:=xM hv qb6;have hu16:=xM hu qb6;refine Q0h ?_;exact Q0t):Z:=h
theorem Q2j(h:Z:=by
 have hv16:=xM hv qb6;have hu16:=xM hu qb6;refine Q0h ?_;exact Q0s):Z:=h
theorem Q2n(k:Y)(h:Wr Y->Z:=by
 intro kQ;refine Ba ?_;refine Bi (i+j) 1 (by rw[IntWalk.i64_in _ Q4P];omega) Q4P ?_;refine Ba ?_;exact kQ.o):Z:=h ⟨k⟩
theorem Q2o(h:Z:=by
 refine Ba ?_;refine N.next (i+1) ⟨by omega,by omega⟩ ?_;exact Q0R):Z:=h
theorem Q2u(k:Y)(h:Wr Y->Z:=by
 intro kQ;refine Ba ?_;refine Bc (qx7 _ _ _ _ Q4P Q4P Q4P Q4P Q4P Q4P) ?_;exact kQ.o):Z:=h ⟨k⟩
theorem Q2v(h:Z:=by
 rw[<-qdc];exact(IsRow.new _ _ _).alloc _):Z:=h
theorem Q2J(k:Y)(h:Wr Y->Z:=by intro kQ;(first|with_reducible (first|refine Bb Q4T ?_|refine Bb (qab _ _ _) ?_|refine Bb (qaa _ _) ?_|refine N.eq ?_|refine Bb rfl ?_|refine Bb ⟨by kernel_rfl,by kernel_rfl⟩ ?_|refine N.alt ?_|refine N.forkT ?_|refine N.forkF ?_)|fail);exact kQ.o):Z:=h ⟨k⟩
theorem Q2K(k:Y)(h:Wr Y->Z:=by intro kQ;(first|with_reducible (first|refine Bb (qab _ _ _) ?_|refine Bb (qaa _ _) ?_|refine N.eq ?_|refine Bb rfl ?_|refine Bb ⟨by kernel_rfl,by kernel_rfl⟩ ?_|refine N.alt ?_|refine N.forkT ?_|refine N.forkF ?_)|fail);exact kQ.o):Z:=h ⟨k⟩
theorem Q2P(k:Y)(h:Wr Y->Z:=by intro kQ;(first|with_reducible refine Bb rfl ?_|fail);exact kQ.o):Z:=h ⟨k⟩
theorem Q2T(k:Y)(h:Wr Y->Z:=by intro kQ;(first|refine Bf Q4T ?_|fail);exact kQ.o):Z:=h ⟨k⟩
theorem Q2W(k:Y)(h:Wr Y->Z:=by intro kQ;(first|refine Be Q4T ?_|fail);exact kQ.o):Z:=h ⟨k⟩
theorem Q32(k:Y)(h:Wr Y->Z:=by intro kQ;(first|refine Bb (.plain Q4R) ?_|refine Bb (.one (.ptr rfl)) ?_|fail);exact kQ.o):Z:=h ⟨k⟩
theorem Q35(k:Y)(h:Wr Y->Z:=by intro kQ;(first|refine Be (by rw[xD];omega) ?_|fail);exact kQ.o):Z:=h ⟨k⟩
theorem Q37(k:Y)(h:Wr Y->Z:=by intro kQ;(first|refine Bb (.one (.slice rfl)) ?_|fail);exact kQ.o):Z:=h ⟨k⟩
theorem Q3p(k:Y)(h:Wr Y->Z:=by intro kQ;(first|refine Bb (qfs Q4R) ?_|refine Bb (qjz Q4R Q4R) ?_|refine Bb qj0 ?_|refine Bb (qj1 Q4R) ?_|refine Bb qg0 ?_|fail);exact kQ.o):Z:=h ⟨k⟩
theorem Q3q(k:Y)(h:Wr Y->Z:=by intro kQ;(first|with_reducible refine Bb (ChunkLe.refl _) ?_|fail);exact kQ.o):Z:=h ⟨k⟩
theorem Q3t(k:Y)(h:Wr Y->Z:=by intro kQ;(first|refine Bf (by rw[xu];omega) ?_|fail);exact kQ.o):Z:=h ⟨k⟩
theorem Q3E(k:Y)(h:Wr Y->Z:=by intro kQ;(first|refine Bc (jbb _ _ _ _ _ _ _ (qdk Q4R) (qdk Q4R) hv16 hu16) ?_|refine Bc (jba _ _ _ _ _ _ _ _ _ _ _ Q4R Q4R Q4P) ?_|fail);exact kQ.o):Z:=h ⟨k⟩
theorem Q3L(k:Y)(h:Wr Y->Z:=by intro kQ;(first|refine qxv q4r E rfl underlying143 underlying3 type131 rfl (q4r e1) (by rw[hg];rfl) rfl ?_|fail);exact kQ.o):Z:=h ⟨k⟩
theorem Q49(h:Z:=by first|exact results_cell_row Tryz.results189 _ _ (w.heap.size+1) _ _ _ _ rfl (hr2.drew.row _) underlying139 rfl Q5c|fail):Z:=h
theorem Q4n(h:Z:=by first|exact qcx Tryz.results269 _ _ _ _ _ _ rfl rfl h2 h3|fail):Z:=h
theorem Q4o(h:Z:=by first|exact ⟨by rw[hcm];rfl,by repeat (first|with_reducible exact hbel|with_reducible apply Below.drew|with_reducible apply qbv),hsz⟩|fail):Z:=h
theorem Q4q(h:Z:=by first|exact results_cell_row Tryz.results111 _ _ w.heap.size _ _ _ _ rfl (hr.row _) underlying139 rfl Q5c|fail):Z:=h
theorem Q4u(h:Z:=by first|exact ⟨.inl rfl,.inr ⟨_,rfl,rfl⟩,xb⟩|fail):Z:=h
theorem Q4w(h:Z:=by first|exact ⟨⟨λh=>Q5j,by show 2<=3;decide,qo1 Q4R⟩,⟨λh=>⟨rfl,nlr _⟩,nlr _,qx0⟩,xb⟩|fail):Z:=h
theorem Q4Z(h:Z:=by rw[sz_size];kernel_rfl):Z:=h
theorem Q55(h:Z:=by simp[Apart]):Z:=h
theorem Q5c(h:Z:=by rw[wi_size];kernel_rfl):Z:=h
theorem Q5s(h:Z:=by rintro e w' ⟨he,rfl⟩;exact⟨he,Below.refl _ _⟩):Z:=h
theorem Q5x(h:Z:=by show w.heap.size+1+1+1+1≠_;omega):Z:=h
theorem Q5D(h:Z:=by rw[Bool.true_and];exact decide_eq_decide.2 Q4P):Z:=h
theorem Q5E(h:Z:=by have:=HE.out.1;show v<y1*4294967296+y0;omega):Z:=h
theorem Q5H(h:Z:=by rw[Bool.false_and,xj Q4P]):Z:=h
theorem Q5I(h:Z:=by simp only[Knuth.h];omega):Z:=h
theorem Q5K(h:Z:=by simp[qac]):Z:=h
theorem Q5S(h:Z:=by rw[IntWalk.i64_in _ Q4P];rfl):Z:=h
theorem Q66(h:Z:=by rw[yY];simp;omega):Z:=h
end
end Go.Proofs

namespace Go.Proofs.YtggfpcfkbilkmaaGreatDoor
open Go Go.RowKit Sx
def q4d(x:Ent):Nat->Value
 | 0=>.int .i64 x.node
 | 1=>.int .i64 x.boot
 | 2=>.int .i64 x.heard
 | 3=>.bool x.has
 | 4=>.int .i64 x.x
 | 5=>.int .i64 x.y
 | 6=>.int .i64 x.a
 | 7=>.int .i64 x.b
 | 8=>.int .i64 x.d
 | _=>.int .i64 x.when_
theorem qgr(x:Ent)(k:Nat):qa2 (q4d x k)=true:=by unfold q4d;split<;>rfl
theorem ql9(x:Ent){k:Nat}(h:k<10):cellIn (q4r x) k=q4d x k:=Q1R
theorem qnl(j:Nat):repZ 10 (q4r Ent.zero) j=q4d (Ent.zero) (j%10):=by
 unfold repZ;have h:j%10<10:=xB _ Q4T;generalize j%10=k at h;exact Q1R
abbrev enC(o:Bool)(c:Nat)(T:Nat->Ent):Chunk:=⟨o,c*10,[(0,c*10,.agg ⟨segL (c*10) λj=>q4d (T (j / 10)) (j%10)⟩)]⟩
variable{c:Nat}{T:Nat->Ent}
theorem ja0{o:Bool}{j:Nat}(h:j<c*10):(enC o c T).f j=q4d (T (j / 10)) (j%10):=qaw h
variable{ix:Lz}
theorem qxz{o o':Bool}{T':Nat->Ent}(h:∀i,i<c->T i=T' i):qb4 ix (enC o c T) (enC o' c T'):=λj hj=>by
 have hj:j<c*10:=hj;rw[qaw hj,qaw hj,h (j / 10) Q4P];exact .plain (qgr _ _)
theorem qvm{T':Nat->Ent}{hp:Hp}{n:Nat}(h:∀i,i<c->T i=T' i)(hh:hp[n]?=some (some (enC true c T'))):PostC ix hp n (enC true c T):=⟨_,hh,id,nlr _,qxz h⟩
theorem qzh{T':Nat->Ent}(h:∀i,i<c->T i=T' i):ChunkReLe ix (enC true c T) (enC true c T'):=⟨id,nlr _,qxz h⟩
def seten(T:Nat->Ent)(l:Nat)(x:Ent)(i:Nat):Ent:=if i=l then x else T i
variable{x:Ent}
theorem ja1{l p:Nat}(h:l<c)(e:p=l*10):Writes (enC true c T) p (1*10) (q4r x) (enC true c (seten T l x)):=by
 subst e;refine⟨rfl,by show l*10+1*10<=c*10;omega,rfl,λj hj=>?_⟩
 grind[qaw,seten,ql9]
def q4q(T:Nat->Ent)(l:Nat)(x:Ent)(i:Nat):Ent:=if i<l then T i else if i=l then x else Ent.zero
variable{ci:Chunk}
theorem qvn{l cap:Nat}(h:l<cap)(hc:∀j,j<l*10->ci.f j=q4d (T (j / 10)) (j%10)){j:Nat}(hj:j<cap*10):(grown ci l 1 10 (q4r x) (q4r Ent.zero) cap).f j=q4d (q4q T l x (j / 10)) (j%10):=by
 unfold q4q;by_cases h1:j<l*10
 .grind[qdw]
 .rw[if_neg Q4P];by_cases h2:j<(l+1)*10
  .have:=qdx (ci:=ci) (l:=l) (m:=1) (size:=10) (cap:=cap) (v:=q4r x) (z:=q4r Ent.zero) (j:=j-l*10) Q4P
   grind[ql9]
  grind[qc0,qnl]
theorem qhq{l cap:Nat}{T':Nat->Ent}(h:l<cap)(hc:∀j,j<l*10->ci.f j=q4d (T (j / 10)) (j%10))(he:∀i,i<cap->T' i=q4q T l x i):ChunkReLe ix (enC true cap T') (grown ci l 1 10 (q4r x) (q4r Ent.zero) cap):=
 ⟨λ_=>rfl,by show cap*10<=cap*10;omega,λj hj=>by
  have hj:j<cap*10:=hj;rw[qaw hj,qvn h hc hj,he _ Q4P];exact .plain (qgr _ _)⟩
def q72(E:Ez)(i:Nat):Ent:=match (sortK E)[i]? with
 | some k=>(dGet E k).getD Ent.zero
 | none=>Ent.zero
variable{E:Ez}{k:Int}
theorem qsj{i:Nat}{e:Ent}(h:(sortK E)[i]?=some k)(he:dGet E k=some e):q72 E i=e:=by
 grind[q72]
theorem qma{i:Nat}(h:i<E.length):∃k,(sortK E)[i]?=some k/\∃e,(k,e)∈E:=by
 have hl:i<(sortK E).length:=by rw[ql7];exact h
 refine⟨(sortK E)[i],by simp[hl],?_⟩
 grind[qqc,List.getElem_mem]
theorem qo0{α:Type}{E:List (Int×α)}{e:α}(h:(k,e)∈E):∃e',dGet E k=some e':=by
 cases hg:dGet E k with
 | some e'=>exact⟨e',rfl⟩
 | none=>exact absurd rfl (dGet_none.1 hg _ h)
abbrev q81(x:Ext)(o:Bool)(most:Int)(i j:Nat):Chunk:=@Chunk.mk x o 3 [(0,3,.agg ⟨[xc most,.map (some i),.map (some j)]⟩)]
abbrev q67(most:Int):Chunk:=⟨false,2,[(0,2,.agg ⟨[xc most,.map (some 1)]⟩)]⟩
variable{most:Int}
theorem qo1{x:Ext}{o:Bool}{i j:Nat}(hi:ixK ix 1=some i):qb4 ix (q81 x o most i j) (q67 most):=λl hl=>by
 match l,hl with
 | 0,_=>exact .plain rfl
 | 1,_=>exact .map hi
theorem qx0{α:Type}{enc:α->Value}{D D':List (Int×α)}:qb4 ix (q49 enc D) (q49 enc D'):=nzj
theorem qo2{α:Type}{enc:α->Value}{D:List (Int×α)}{h:Hp}{k:Nat}(hh:h[k]?=some (some (q49 enc D))):PostC ix h k (q49 enc D):=⟨_,hh,id,nlr _,nzj⟩
def jcz(E:Ez)(k:Nat)(pre:Mz)(v:Value)(ms:Mz):Prop:=
 (E=[]/\v=.slice none 0 0/\ms=pre)\/∃cap,0<E.length/\E.length<=cap/\v=.slice (some ⟨k,0,some 0⟩) E.length cap/\ms=pre++[(k,enC true cap λi=>if i<E.length then q72 E i else Ent.zero)]
theorem q82{v u:Value}(h:v=u)(hp:qar v=true):Re ix v u:=by subst h;exact .plain hp
theorem qx1{k:IntKind}{a b:Int}(h:a=b):Value.int k a=.int k b:=by rw[h]
def allF(E:Ez)(r i:Nat):Ent:=if i<r then q72 E i else Ent.zero
variable{P:Program}
theorem qzi{G:Tys}{n0:Nat}{c:Code}{A:(Exit->St->Prop)->St->Prop}{Q:Exit->St->Prop}{t:List (Option Value)}{h:Hp}(mk:Nat)(hw:updK mk [] t 0 λt'=>wkK n0 ⟨t,h⟩ ⟨t',h⟩ (N True))(k:updK mk [] t 0 λt'=>N (q5z P G n0 c A Q ⟨t',h⟩)):N (q5z P G n0 c A Q ⟨t,h⟩):=by
 have h1:=(qr0 (updK_iff.1 hw)).1;obtain⟨α,mk',inv,μ,nx,p1,⟨x,p2,p3⟩,p4⟩:=(updK_iff.1 k).out;exact N.mk ⟨α,mk',inv,μ,nx,p1,⟨x,p2,λX ρ a w hn R=>p3 X ρ a w hn (by subst hn;exact h1.rel R)⟩,p4⟩
variable{l:List Int}
theorem qsk{p n:Nat}{x:Int}(i:Nat)(hn:n=1)(h:l[i]?=some x)(e:p=i*1):Reads (q5f l) p false n (xc x):=by
 subst e hn;have hl:=(xe.1 h).1;exact⟨by show i*1<l.length;omega,rfl,by rw[xU];exact qnj h⟩
theorem qx2{o:Bool}{n m:Nat}{l:List Value}(hl:l.length=n)(hm:m=n):Reads ⟨o,n,[(0,n,.agg ⟨l⟩)]⟩ 0 true m (.agg ⟨l⟩):=by
 subst hm;refine⟨by show 0+m<=m;omega,_,rfl,hl,λj hj=>?_⟩;show qa1 [(0,m,.agg ⟨l⟩)] (0+j)=_
 grind[qan,cellIn]
variable{K:Value->Mz->Prop}
theorem qzj{cj:Chunk}{g m size bytes:Nat}{z:Value}{slot:Nat}(v:Value)(hr:Reads cj g true (m*size) v)(h0:0<m)(h1:m<=9223372036854775807)(h2:m*bytes<=140737488355328)
  (k:∀cap,m<=cap->K (.slice (some ⟨slot,0,some 0⟩) m cap) [(slot,grown ⟨true,0,[]⟩ 0 m size v z cap)]):N (App0N cj g m size bytes z slot K):=N.mk (.inl ⟨v,hr,h0,h1,h2,k⟩)
theorem q1q{k s l:Nat}{cj:Chunk}{g m size bytes:Nat}{z:Value}{slot:Nat}(v:Value)(hr:Reads cj g true (m*size) v)(hf:flatB v (m*size)=true)(hl:l*size<=ci.n)(h1:l+m<=9223372036854775807)(h2:(l+m)*bytes<=140737488355328)
  (d:Chunk) (hw:l+m<=c->Writes ci (l*size) (m*size) v d) (k1:l+m<=c->K (.slice (some ⟨k,0,some s⟩) (l+m) c) [(k,d)]) (k2:c<l+m->∀cap,l+m<=cap->K (.slice (some ⟨slot,0,some 0⟩) (l+m) cap) [(slot,grown ci l m size v z cap)]):N (AppN ci k s l c cj g m size bytes z slot K):=
 N.mk ⟨v,hr,hf,hl,h1,h2,λh=>⟨d,hw h,k1 h⟩,k2⟩
theorem qjz{F:List ((Nat×Nat)×Win)}(h1:ixK ix 1=some 1)(h2:ixK ix 2=some 2):ChunkReLe ix (mainC F most) (mainC F most):=⟨id,nlr _,λj hj=>by
 match j,hj with
 | 0,_=>exact .plain rfl
 | 1,_=>exact .map h1
 | 2,_=>exact .map h2⟩
theorem qfs(h1:ixK ix 1=some 1):ChunkReLe ix (q67 most) (q67 most):=⟨id,nlr _,λj hj=>by
 match j,hj with
 | 0,_=>exact .plain rfl
 | 1,_=>exact .map h1⟩
theorem qj0{α:Type}{enc:α->Value}{D:List (Int×α)}:ChunkReLe ix (q49 enc D) (q49 enc D):=⟨id,nlr _,nzj⟩
theorem qj1(h1:ixK ix 1=some 1):ChunkReLe ix (q8x 1) (q8x 1):=⟨id,nlr _,λj hj=>by
 match j,hj with
 | 0,_=>exact .map h1⟩
theorem qg0:ChunkReLe ix (q5f l) (q5f l):=⟨id,nlr _,λj hj=>by
 have hj:j<l.length:=hj;have e:l[j]?=some l[j]:=by simp[hj]
 rw[qnj e];exact .plain rfl⟩
theorem qal{g:FuncId}{vs:List Value}{h:Hp}{R R':Value->Mz->Prop}(hc:CallAll P g vs h R)(hr:∀v ms,R v ms->R' v ms):CallAll P g vs h R':=λX ρ w xs H hx=>by
 rcases hc X ρ w xs H hx with ⟨x,w',h1,v,ms,ρ',h2,h3⟩|⟨h1,h2⟩
 .exact .inl ⟨x,w',h1,v,ms,ρ',hr _ _ h2,h3⟩
 .refine .inr ⟨h1,h2.mono ?_⟩;rintro e w' ⟨x,he,v,ms,ρ',h3,h4⟩;exact⟨x,he,v,ms,ρ',hr _ _ h3,h4⟩
theorem ja2(x:Ext)(o:Bool)(most:Int)(E:Ez)(hE:E.length<=64)(i i1 i2 K:Nat)(h:Hp)(hi:h[i]?=some (some (q81 x o most i1 i2)))(h1:h[i1]?=some (some (q49 q4r E)))(hii:i≠i1)(hK:h[K]?=some none):
  CallAll prog 95 [xd i] h (jcz E K [(i1,q49 q4r E)]):=by
 have key:=qaq (G:=tys) (h:=h) (vs:=[xd i]) (λ_:Unit=>True) (λ_=>_) (α:=Option Nat) (λκ=>match κ with|none=>E=[]|some cap=>0<E.length/\E.length<=cap) (λκ=>match κ with|none=>.slice none 0 0|some cap=>.slice (some ⟨K,0,some 0⟩) E.length cap) [⟨i,_,q67 most,noC⟩,⟨i1,q49 q4r E,q49 q4r E,q49 q4r E⟩] (λ_=>[noC,q49 q4r E])
  (λκ=>match κ with|none=>[]|some cap=>[⟨K,7,enC true cap λi=>if i<E.length then q72 E i else Ent.zero⟩]) [xd 0] tysOK mixed func95 Q4R (call95) ⟨hi,h1,xb⟩ Q4w (λκ _=>Q4w) (by simp[Apart,hii]) ⟨.inl rfl,.inr ⟨rfl,rfl⟩,xb⟩ (λκ hκ=>by
   cases κ with
   | none=>exact trivial
   | some cap=>exact⟨⟨hK,rfl,.inl (by show 0<cap*10;have:=hκ.1;have:=hκ.2;omega),by simp⟩,xb⟩) ⟨.ptr rfl,xb⟩ Opens.same ?_
 .refine qal key λv ms hR=>?_
  obtain⟨κ,hκ,rfl,rfl⟩:=hR;cases κ with
  | none=>exact .inl ⟨hκ,rfl,rfl⟩
  | some cap=>exact .inr ⟨cap,hκ.1,hκ.2,rfl,rfl⟩
 rintro⟨⟩ -
 repeat' (refine Ba ?_;first|refine Q2O ?_|refine Q2M ?_|refine Bc (qxx 1 2 _ _ Q4R Q4R) ?_|fail)
 refine Ba ?_
 refine Bg (qoy E 1 2 6 _ _ Q4R rfl Q4R Q4R Q4P) λv ms hR=>?_
 rcases hR with ⟨hE0,rfl,rfl⟩|⟨kc,hpos,hkc,rfl,rfl⟩
 .refine Q05 ?_;refine Bq 1 ?_;refine Q05 ?_;refine Bj ?_;refine Bh none ⟨hE0,?_⟩;refine Bb (.plain rfl) ?_;refine Bb ⟨qo2 Q4R,xb⟩ ?_;refine Bb xb ?_;refine Bb ⟨Q4u,xb⟩ ?_;exact Bd
 .refine Q05 ?_;refine qzi 4096 ?_ ?_
  .repeat' (refine Ba ?_;first|refine Q2O ?_|refine Q2M ?_|exact Bd|refine Q3q ?_|fail)
  refine Ba ?_;refine Bo (α:=Option (Nat×Nat)) (λx=>match x with|none=>True|some q=>1<=q.1/\q.1<=E.length/\q.1<=q.2) (λx=>match x with|none=>E.length|some q=>E.length-q.1) (λx=>match x with|none=>[(15,xc 0),(3,.slice none 0 0)]|some q=>[(15,xc (q.1:Int)),(3,.slice (some ⟨7,0,some 0⟩) q.1 q.2)]) (λx=>match x with|none=>[]|some q=>[(7,enC true q.2 (allF E q.1))]) none [(0,0),(1,1),(2,2),(6,6)] trivial ?_ ?_
  .repeat' (refine Ba ?_;first|refine Q2O ?_|refine Q2M ?_|exact Bd|refine Q3p ?_|refine Q32 ?_|refine Bb (.one (.map rfl)) ?_|refine Q37 ?_|fail)
  .intro x hx;cases x with
   | none=>
    obtain⟨k0,hk0,e0,he0⟩:=qma (E:=E) (i:=0) hpos;obtain⟨e1,hg⟩:=qo0 he0;refine Q05 ?_;refine Bi 0 1 rfl hpos ?_;repeat' (refine Ba ?_;first|refine Q2O ?_|refine Q2M ?_|refine Bk _ (qsk 0 rfl hk0 rfl) ?_|refine Q3L ?_|fail)
    refine Ba ?_;refine qzj (q4r e1) (qx2 Q4R Q4R) Q4T Q4T Q4T λcap hcap=>?_
    refine Q05 ?_;refine Bl (some (1,cap)) [(0,0),(1,1),(2,2),(6,6),(8,7)] ⟨⟨nlr _,hpos,hcap⟩,by show E.length-1<E.length;omega⟩ ?_;have hgr:∀i,i<cap->allF E 1 i=q4q (λ_=>Ent.zero) 0 e1 i:=λi _=>by
     unfold allF q4q;by_cases h0:i=0
     .subst h0;rw[if_pos Q4P,if_neg Q4P,if_pos rfl];exact qsj hk0 hg
     .rw[if_neg Q4P,if_neg Q4P,if_neg h0]
    repeat' (refine Ba ?_;first|refine Q2O ?_|refine Q2M ?_|exact Bd|refine Q3p ?_|refine Q32 ?_|refine Bb (.one (.map rfl)) ?_|refine Q37 ?_|refine Bb (qhq (l:=0) hcap (λj hj=>absurd hj Q4P) hgr) ?_|fail)
   | some q=>
    obtain⟨r,c⟩:=q;obtain⟨q1,q2,q3⟩:=hx;have q1:1<=r:=q1;have q2:r<=E.length:=q2;have q3:r<=c:=q3;by_cases hlt:r<E.length
    .obtain⟨k0,hk0,e0,he0⟩:=qma (E:=E) (i:=r) hlt;obtain⟨e1,hg⟩:=qo0 he0;have hset:allF E (r+1)=seten (allF E r) r e1:=by
      funext i;unfold allF seten;by_cases h0:i=r
      .subst h0;rw[if_pos Q4P,if_pos rfl];exact qsj hk0 hg
      .rw[if_neg h0];by_cases h1:i<r
       .rw[if_pos Q4P];exact(if_pos h1).symm
       .rw[if_neg Q4P];exact(if_neg h1).symm
     have hgr:∀cap i,i<cap->allF E (r+1) i=q4q (allF E r) r e1 i:=λcap i _=>by
      rw[hset];unfold seten q4q;by_cases h0:i<r
      .rw[if_neg Q4P,if_pos h0]
      .rw[if_neg h0];by_cases h1:i=r
       .rw[if_pos h1,if_pos h1]
       .rw[if_neg h1,if_neg h1];unfold allF;rw[if_neg h0]
     refine Q05 ?_;refine Bi r 1 rfl hlt ?_;repeat' (refine Ba ?_;first|refine Q2O ?_|refine Q2M ?_|refine Bk _ (qsk r rfl hk0 (by first|rfl|omega)) ?_|refine Q3L ?_|fail)
     refine Ba ?_;refine q1q (q4r e1) (qx2 Q4R Q4R) Q4R (by show r*10<=c*10;omega) Q4P (by show(r+1)*80<=_;omega) (enC true c (seten (allF E r) r e1)) (λh=>ja1 Q4P rfl) (λhr=>?_) (λhg2 cap hcap=>?_)
     .refine Q05 ?_;refine Bl (some (r+1,c)) [(0,0),(1,1),(2,2),(6,6),(7,7)] ⟨⟨by show 1<=r+1;omega,hlt,hr⟩,by show E.length-(r+1)<E.length-r;omega⟩ ?_;repeat' (refine Ba ?_;first|refine Q2O ?_|refine Q2M ?_|exact Bd|refine Q3p ?_|refine Q32 ?_|refine Bb (.one (.map rfl)) ?_|refine Q37 ?_|refine Bb (q82 (qx1 (by rw[q36 _ Q4P Q4P];omega)) rfl) ?_|refine Bb (qzh λi _=>by rw[hset]) ?_|fail)
     .refine Q05 ?_;refine Bl (some (r+1,cap)) [(0,0),(1,1),(2,2),(6,6),(9,7)] ⟨⟨by show 1<=r+1;omega,hlt,hcap⟩,by show E.length-(r+1)<E.length-r;omega⟩ ?_;repeat' (refine Ba ?_;first|refine Q2O ?_|refine Q2M ?_|exact Bd|refine Bb (qfs Q4R) ?_|refine Bb qj0 ?_|refine Bb (qj1 Q4R) ?_|refine Bb qg0 ?_|refine Q32 ?_|refine Bb (.one (.map rfl)) ?_|refine Q37 ?_|refine Bb (q82 (qx1 (by rw[q36 _ Q4P Q4P];omega)) rfl) ?_|refine Bb (qhq (ci:=enC true c (allF E r)) hcap (λj hj=>ja0 Q4P) (hgr cap)) ?_|fail)
    .obtain rfl:r=E.length:=by omega
     refine Q05 ?_;refine Bj ?_;refine Bh (some c) ⟨⟨q1,q3⟩,?_⟩;refine Bb (.one (.slice rfl)) ?_;refine Bb ⟨qo2 Q4R,xb⟩ ?_;refine Bb ⟨⟨yD rfl,qvm (T':=allF E E.length) (λ_ _=>rfl) Q4R⟩,xb⟩ ?_;refine Bb ⟨Q4u,.inl rfl,xb⟩ ?_;exact Bd
open Go Go.RowKit Sx
theorem qj2{α:Type}(D:List (Int×α))(k:Int)(a:α):dGet (q52 D k a) k=some a:=by
 unfold q52;cases hg:dGet D k with
 | none=>
  grind[dGet]
 | some b=>
  simp only;have hm:=qr4 hg
  induction D with
  | nil=>cases hm
  | cons q D ih=>
   grind[dGet]
theorem qnm{α:Type}(D:List (Int×α)){n:Int}(a:α)(h:n≠k):dGet (q52 D k a) n=dGet D n:=by
 unfold q52;cases hg:dGet D k with
 | none=>
  grind[dGet]
 | some b=>
  simp only;clear hg;unfold dGet
  induction D with
  | nil=>rfl
  | cons q D ih=>
   grind
open Go Go.RowKit Sx
def qx3(n boot seq now:Int):Prop:=(0<=n/\n<64)/\q5l boot/\q5l seq/\(0<=now/\now<=1000000)
variable{w:World}
theorem HOK.sub{X:Ctx}{ρ:Rz}{h h':Hp}(H:HOK X ρ h w)(hb:∀i,i<X.n0->Fil h' i)(hs:∀(i:Nat)(c:Chunk),h'[i]?=some (some c)->h[i]?=some (some c)/\∀j,j<c.n->Safe1 h' (c.f j)):HOK X ρ h' w:=by
 refine⟨H.evo,λi hi=>⟨hb i hi,(H.base i hi).2⟩,λi c hi=>H.lt i c (hs i c hi).1,λi c hi j hj=>?_,λi c hi=>H.own i c (hs i c hi).1,λi c j d hi ho hj=>H.sep i c j d (hs i c hi).1 ho (hs j d hj).1,?_⟩
 .obtain⟨x,hx,hd⟩:=H.cell i c (hs i c hi).1 j hj;exact⟨x,hx,λr hr=>((hs i c hi).2 j hj).inScope ρ r hr |>.trans hd.self⟩
 .obtain⟨S,E⟩:=H.ext;exact E.less λi c hi=>⟨rfl,c,(hs i c hi).1,nlr _,.inr rfl⟩
open Go Go.RowKit Sx
instance(n boot seq now:Int):Decidable (qx3 n boot seq now):=by unfold qx3;infer_instance
structure TOK(T:Tbl):Prop where
 most:1<=T.most/\T.most<=64
 len:T.E.length<=T.most
 seen:∀n l,T.lives n=some l->l.W.seen<18446744073709551616
structure EOK(E:Ez):Prop where
 nodup:(E.map (·.1)).Nodup
 key:∀k e,dGet E k=some e->e.node=k
theorem qsl{α:Type}{D:List (Int×α)}{a:α}(h:(D.map (·.1)).Nodup):((q52 D k a).map (·.1)).Nodup:=by
 grind[q52,dGet_none]
theorem EOK.put(h:EOK E)(e:Ent):EOK (q52 E e.node e):=⟨qsl h.nodup,λk x hx=>by
 by_cases hk:k=e.node
 .grind[qj2]
 .rw[qnm _ _ hk] at hx;exact h.key k x hx⟩
theorem EOK.nil:EOK []:=⟨xE,λk e h=>by simp[dGet] at h⟩
abbrev Bs:Nat:=18446744073709551616
theorem qe1:0<Bs:=by decide
theorem qcb(n:Nat):0<Bs^n:=by grind
def dg(v j:Nat):Nat:=v / Bs^j%Bs
theorem q37(v j:Nat):dg v j<18446744073709551616:=xB _ qe1
theorem qhr(j:Nat):dg 0 j=0:=by simp[dg]
theorem qdq(v j:Nat):v / Bs^j=v / Bs^(j+1)*Bs+dg v j:=by
 grind[dg,yI,xK]
theorem qg1(v j:Nat):v%Bs^(j+1)=v%Bs^j+Bs^j*dg v j:=by
 unfold dg;rw[yJ,Nat.mod_mul]
theorem qi1(v j:Nat)(h:v<Bs^j):dg v j=0:=by
 grind[dg,xV]
theorem qx4(v n j:Nat)(h:j<n):dg (v%Bs^n) j=dg v j:=by
 unfold dg;obtain⟨k,rfl⟩:∃k,n=j+(k+1):=⟨n-j-1,by omega⟩;rw[xG,Nat.mod_mul_right_div_self,yJ,xq (Bs^k),Nat.mod_mul_right_mod]
theorem qvo(n a b:Nat)(ha:a<Bs^n)(hb:b<Bs^n)(h:∀j,j<n->dg a j=dg b j):a=b:=by
 have key:∀m,m<=n->a%Bs^m=b%Bs^m:=by
  intro m
  induction m with
  | zero=>intro _;simp[Nat.mod_one]
  | succ m ih=>intro hm;rw[qg1,qg1,ih Q4P,h m Q4P]
 grind[ya]
def cry(a b i:Nat):Nat:=(a%Bs^i+b%Bs^i) / Bs^i
theorem qo3(a b:Nat):cry a b 0=0:=by grind[cry]
theorem qsm(a b i:Nat):cry a b i<=1:=by
 unfold cry;have h1:=xB a (qcb i);have h2:=xB b (qcb i);have:(a%Bs^i+b%Bs^i) / Bs^i<2:=(yd (qcb i)).2 Q4P;omega
theorem qj3(a b i:Nat):dg a i+dg b i+cry a b i=dg (a+b) i+Bs*cry a b (i+1):=by
 have e1:∀m,a+b=(a / Bs^m+b / Bs^m+cry a b m)*Bs^m+(a%Bs^m+b%Bs^m)%Bs^m:=by
  grind[xK,cry]
 have e2:∀m,(a+b) / Bs^m=a / Bs^m+b / Bs^m+cry a b m:=by
  intro m;have h:=e1 m;have hr:=xB (a%Bs^m+b%Bs^m) (qcb m)
  grind[xq,yT,xV]
 grind[qdq]
theorem qzk(a b i:Nat):(dg a i+dg b i+cry a b i)%18446744073709551616=dg (a+b) i:=by
 grind[qj3,q37]
theorem qvp(a b i:Nat):(dg a i+dg b i+cry a b i) / 18446744073709551616=cry a b (i+1):=by
 grind[qj3,q37]
theorem qzl(x d b B:Nat)(hd:d<B)(hb:0<b):(x%b*B+d) / b=(x*B+d) / b%B/\(x%b*B+d)%b=(x*B+d)%b:=by
 have hq:=xK x b;have hr:=xB x hb;have e:x*B+d=b*(x / b*B)+(x%b*B+d):=by
  grind
 have hlt:(x%b*B+d) / b<B:=by
  rw[yd hb];have:(x%b+1)*B<=b*B:=yy _ hr
  grind
 constructor
 .rw[e,yT hb,xq (x / b) B,y3,ya hlt]
 simp_all
theorem qvq(a b i:Nat)(hb:0<b):(a / Bs^(i+1)%b*18446744073709551616+dg a i) / b=dg (a / b) i/\(a / Bs^(i+1)%b*18446744073709551616+dg a i)%b=a / Bs^i%b:=by
 have h:=qzl (a / Bs^(i+1)) (dg a i) b Bs (q37 a i) hb
 grind[qdq,dg,yI]
theorem qo4(a i k:Nat)(hk:k<64):dg (a / 2^k) i=dg a i / 2^k+dg a (i+1)*2^(64-k)%18446744073709551616:=by
 have e:Bs=2^k*2^(64-k):=by rw[<-xG,show k+(64-k)=64 by omega]
 have s:=qdq a i;have s1:=qdq a (i+1);have hd:=q37 a i;unfold dg at s1 s hd ⊢;rw[yI,xq (2^k),<-yI];generalize a / Bs^i%Bs=d0 at *;generalize a / Bs^(i+1)%Bs=d1 at *;generalize a / Bs^(i+1)=x at *;generalize a / Bs^(i+1+1)=y at *;rw[s,s1];have hp:0<2^k:=yz Q4T;have hp2:0<2^(64-k):=yz Q4T;generalize 2^k=p at *;generalize 2^(64-k)=q at *;show _=d0 / p+d1*q%Bs;have hd':d0<Bs:=hd;clear s s1 hd hk;generalize Bs=B at *;subst e;rw[show(y*(p*q)+d1)*(p*q)+d0=p*((y*(p*q)+d1)*q)+d0 by rw[Nat.mul_left_comm],yT hp];have hq:d0 / p<q:=by rw[yd hp,xq];exact hd'
 have h2:(y*(p*q)+d1)*q+d0 / p=(p*q)*(y*q)+(d1*q+d0 / p):=by
  grind
 rw[h2,y3];have h3:=xK (d1*q) (p*q);have h4:d1*q%(p*q)=d1%p*q:=by rw[Nat.mul_mod_mul_right]
 have h5:d1%p*q+d0 / p<p*q:=by
  have:=xB d1 hp;have:(d1%p+1)*q<=p*q:=yy _ this
  grind
 rw[show d1*q+d0 / p=p*q*(d1*q / (p*q))+(d1*q%(p*q)+d0 / p) by omega,y3,h4,ya h5];omega
open Go.RowKit
def lim(n:Nat)(f:Nat->Nat):Array Value:=((List.range n).map λj=>Value.int .u64 ((f j:Nat):Int)).toArray
@[simp] theorem lim_size(n:Nat)(f:Nat->Nat):(lim n f).size=n:=by simp[lim]
theorem qdr(n:Nat)(f:Nat->Nat)(j:Nat)(h:j<n):(lim n f)[j]?=some (.int .u64 ((f j:Nat):Int)):=by
 simp[lim,h]
theorem qzm(n:Nat)(f:Nat->Nat):(lim n f).all (·.oneCell')=true:=by
 rw[Array.all_eq_true_iff_forall_mem];intro x hx;simp only[lim,List.mem_toArray,xx] at hx;obtain⟨j,_,rfl⟩:=hx;rfl
theorem qhs(n:Nat)(f g:Nat->Nat)(i:Nat)(v:Int)(hi:i<n)(hv:v=((g i:Nat):Int))(h:∀j,j<n->j≠i->f j=g j):(lim n f).setIfInBounds i (.int .u64 v)=lim n g:=by
 apply y6;intro j;rw[yY];by_cases hj:j<n
 .rw[qdr n g j hj];split
  .simp_all
  grind[qdr]
 simp_all
theorem qcu(n:Nat)(f g:Nat->Nat)(h:∀j,j<n->f j=g j):lim n f=lim n g:=by
 grind[lim]
def sz(v:Nat):Array Value:=lim 16 (dg v)
@[simp] theorem sz_size(v:Nat):(sz v).size=16:=lim_size _ _
theorem qht(v j:Nat)(h:j<16):(sz v)[j]?=some (.int .u64 ((dg v j:Nat):Int)):=qdr _ _ _ h
theorem qbx(v:Nat):(sz v).all (·.oneCell')=true:=qzm _ _
theorem qdc:sz 0 = #[.int .u64 0,.int .u64 0,.int .u64 0,.int .u64 0,.int .u64 0,.int .u64 0,.int .u64 0,.int .u64 0,.int .u64 0,.int .u64 0,.int .u64 0,.int .u64 0,.int .u64 0,.int .u64 0,.int .u64 0,.int .u64 0]:=by
 rfl
theorem qcv(v:Nat)(h:v<18446744073709551616)(j:Nat):dg v j=if j=0 then v else 0:=by
 grind[dg,qi1,yU]
theorem qvr(v:Nat)(h:v<18446744073709551616):sz v = #[.int .u64 v,.int .u64 0,.int .u64 0,.int .u64 0,.int .u64 0,.int .u64 0,.int .u64 0,.int .u64 0,.int .u64 0,.int .u64 0,.int .u64 0,.int .u64 0,.int .u64 0,.int .u64 0,.int .u64 0,.int .u64 0]:=by
 unfold sz;rw[qcu 16 (dg v) (λj=>if j=0 then v else 0) (λj _=>qcv v h j)];rfl
def wi(neg over:Bool)(v:Nat):Array Value:=#[.bool neg,.bool over]++sz v
@[simp] theorem wi_size(neg over:Bool)(v:Nat):(wi neg over v).size=18:=by simp[wi]
theorem qx5(neg over:Bool)(v:Nat):(wi neg over v)[0]?=some (.bool neg):=by simp[wi,y9]
theorem qsn(neg over:Bool)(v:Nat):(wi neg over v)[1]?=some (.bool over):=by simp[wi,y9]
theorem qx6(neg over:Bool)(v j:Nat)(h:j<16):(wi neg over v)[2+j]?=some (.int .u64 ((dg v j:Nat):Int)):=by
 rw[wi,y9,if_neg Q50,show 2+j - #[Value.bool neg,Value.bool over].size=j by simp];exact qht v j h
theorem qhu(neg over:Bool)(v:Nat):(wi neg over v).all (·.oneCell')=true:=by
 unfold wi;rw[Array.all_append,qbx];simp[Value.oneCell']
def IsRow(w:World)(g:Nat)(t:TypeId)(cs:Array Value):Prop:=w.heap[g]?=some (.cells cs t (0,0))
section
variable{w:World}{g:Nat}{t:TypeId}{cs:Array Value}
theorem IsRow.lt(h:IsRow w g t cs):g<w.heap.size:=(xI.1 h).1
theorem IsRow.cell(h:IsRow w g t cs){j:Nat}{v:Value}(hv:cs[j]?=some v):w.cell? ⟨g,j,none⟩=some v:=by
 rw[cell_of_row w g j cs t _ h];exact hv
theorem IsRow.frozen(h:IsRow w g t cs)(j:Nat):w.frozen? ⟨g,j,none⟩=false:=by
 simp[World.frozen?,show w.heap[g]?=some (.cells cs t (0,0)) from h]
theorem IsRow.alloc(h:IsRow w g t cs)(o:Obj):IsRow (w.alloc o) g t cs:=by
 have:=h.lt;unfold IsRow World.alloc at *
 grind
theorem IsRow.drew(h:IsRow w g t cs):IsRow w.drew g t cs:=h
theorem IsRow.drewN(h:IsRow w g t cs)(n:Nat):IsRow (w.drewN n) g t cs:=h
theorem IsRow.new(w:World)(cs:Array Value)(t:TypeId):IsRow (w.alloc (.cells cs t)) w.heap.size t cs:=by
 unfold IsRow World.alloc;simp
theorem IsRow.set(h:IsRow w g t cs)(i:Nat)(v:Value):IsRow (w.setCell ⟨g,i,none⟩ v) g t (cs.setIfInBounds i v):=by
 unfold IsRow;rw[setCell_eq_setRow w g i cs t _ v h];exact setRow_heap w g cs _ t _ h
theorem IsRow.setOther(h:IsRow w g t cs)(a:Addr)(v:Value)(hne:a.block≠g):IsRow (w.setCell a v) g t cs:=by
 unfold IsRow World.setCell at *
 grind
theorem IsRow.row(h:IsRow w g t cs)(ds:Array Value):IsRow (w.setRow g ds) g t ds:=setRow_heap w g cs ds t _ h
theorem IsRow.rowOther(h:IsRow w g t cs)(k:Nat)(ds:Array Value)(hne:g≠k):IsRow (w.setRow k ds) g t cs:=(setRow_other w k g ds hne).trans h
theorem IsRow.below{w':World}{B:Nat}(h:IsRow w g t cs)(hb:Below B w w')(hg:g<B):IsRow w' g t cs:=(hb.block g hg).trans h
end
def Digs(w:World)(g o v:Nat):Prop:=∀j,j<16->w.cell? ⟨g,o+j,none⟩=some (.int .u64 ((dg v j:Nat):Int))
theorem Digs.of_sz{g:Nat}{t:TypeId}{v:Nat}(h:IsRow w g t (sz v)):Digs w g 0 v:=λj hj=>by
 rw[xl];exact h.cell (qht v j hj)
theorem Digs.of_wi{g:Nat}{t:TypeId}{neg over:Bool}{v:Nat}(h:IsRow w g t (wi neg over v)):Digs w g 2 v:=λj hj=>h.cell (qx6 neg over v j hj)
theorem Digs.lt{g o v:Nat}(h:Digs w g o v):g<w.heap.size:=World.block_lt_of_cell? _ _ (h 0 Q4P)
theorem Digs.below{w':World}{g o v B:Nat}(h:Digs w g o v)(hb:Below B w w')(hg:g<B):Digs w' g o v:=λj hj=>(hb.cell (p:=⟨g,o+j,none⟩) hg).trans (h j hj)
variable{ops:Array Oper}{rest:List Oper}{a:Act}{Q:Exit->Act->World->Prop}
theorem qcw{o:Oper}(hg:o.guard=none)(t:TypeId)(i:Nat)(x:Operand)(ho:o.op=.build t #[(i,x)])
  (v:Value) (hv:a.eval x=v) (cs:Array Value) (hb:P.built t [(i,v)]=some cs)
  (h:wpList P ops Q rest (a.put o.dst (.agg cs)) w):wpList P ops Q (o::rest) a w:=by
 subst hv
 have e:((#[(i,x)]:Array (Nat×Operand)).map fun(i,x)=>(i,a.eval x)).toList=[(i,a.eval x)]:=by simp
 refine wpList_build hg t _ ho ?_ ?_
 .simp_all
 .simp_all
theorem qft{o:Oper}(hg:o.guard=none)(t:TypeId)(i j:Nat)(x y:Operand)(ho:o.op=.build t #[(i,x),(j,y)])
  (u v:Value) (hu:a.eval x=u) (hv:a.eval y=v) (cs:Array Value) (hb:P.built t [(i,u),(j,v)]=some cs)
  (h:wpList P ops Q rest (a.put o.dst (.agg cs)) w):wpList P ops Q (o::rest) a w:=by
 subst hu hv
 have e:((#[(i,x),(j,y)]:Array (Nat×Operand)).map fun(i,x)=>(i,a.eval x)).toList=[(i,a.eval x),(j,a.eval y)]:=by simp
 refine wpList_build hg t _ ho ?_ ?_
 .simp_all
 .simp_all
theorem qfu{o:Oper}(hg:o.guard=none)(t:TypeId)(ho:o.op=.build t #[])
  (cs:Array Value) (hb:P.built t []=some cs)
  (h:wpList P ops Q rest (a.put o.dst (.agg cs)) w):wpList P ops Q (o::rest) a w:=by
 have e:((#[]:Array (Nat×Operand)).map fun(i,x)=>(i,a.eval x)).toList=[]:=by simp
 refine wpList_build hg t _ ho ?_ ?_
 .simp_all
 .simp_all
theorem qgu(w:World)(g o:Nat)(ty:TypeId)(cs:Array Value)(d:TypeDesc)(hc:∀j v,cs[j]?=some v->w.cell? ⟨g,o+j,none⟩=some v)
  (hu:P.underlying ty=some d) (hd:(match d with|.struct _|.array _ _=>true|_=>false)=true) (hi:(P.info? ty).map (·.size)=some cs.size) :
  (loadVar ty ⟨g,o,none⟩).run P w=.ok (.agg cs) w:=by
 have hl:(loadCells ⟨g,o,none⟩ cs.toList.length).run P w=.ok cs.toList.toArray w:=
  run_loadCells_list (P:=P) w ⟨g,o,none⟩ cs.toList (λj v hv=>by
   have hadd:(⟨g,o,none⟩:Addr).add j=⟨g,o+j,none⟩:=by unfold Addr.add;split<;>simp_all
   simp_all)
 cases hq:P.info? ty with
 | none=>simp[hq] at hi
 | some i=>
  have hs:i.size=cs.size:=by simpa[hq] using hi
  have hagg:(isAgg ty).run P w=.ok true w:=by
   unfold isAgg;rw[Sem.run_bind,run_underlying hu w];cases d<;>simp_all
  simp only[Array.length_toList,Array.toArray_toList] at hl;simp[loadVar,Sem.run_bind,hagg,sizeOf,typeInfo,hq,hs,hl]
theorem qcl{o:Oper}(hgd:o.guard=none)(ty:TypeId)(x:Operand)(ho:o.op=.load ty x)
  (g k:Nat) (hx:a.eval x=.pointer (some ⟨g,k,none⟩)) (cs:Array Value) (d:TypeDesc) (hc:∀j v,cs[j]?=some v->w.cell? ⟨g,k+j,none⟩=some v)
  (hu:P.underlying ty=some d) (hd:(match d with|.struct _|.array _ _=>true|_=>false)=true) (hi:(P.info? ty).map (·.size)=some cs.size)
  (h:wpList P ops Q rest (a.put o.dst (.agg cs)) w):wpList P ops Q (o::rest) a w:=
 wpList_plain hgd λ_ hK=>by
  unfold Oper.wp execOp;simp only[ho,hx,Instr.loadAt,Instr.sureAddr,Sem.run_bind,Sem.run_pure,Result.andThen_ok,qgu w g k ty cs d hc hu hd hi];exact hK _ _ h
theorem Digs.cells{g o v:Nat}(h:Digs w g o v):∀j u,(sz v)[j]?=some u->w.cell? ⟨g,o+j,none⟩=some u:=λj u hu=>by
 have hj:j<16:=by
  rcases yc j 16 with h|h
  .exact h
  simp_all
 rw[qht v j hj] at hu;rw[h j hj];exact hu
section
variable{P:Program}{ops:Array Oper}{rest:List Oper}{o:Oper}{a:Act}{w:World}{Q:Act->Prop}
theorem qcm(hw:Region.wanted o (yielded ops a.tmps)=true)(ty:TypeId)(x:Operand)(ho:o.op=.load ty x)
  (g:Nat) (hx:a.eval x=.pointer (some ⟨g,0,none⟩)) (t:TypeId) (cs:Array Value) (fr:Nat×Nat) (d:TypeDesc) (hg:w.heap[g]?=some (.cells cs t fr))
  (hu:P.underlying ty=some d) (hd:(match d with|.struct _|.array _ _=>true|_=>false)=true) (hi:(P.info? ty).map (·.size)=some cs.size)
  (h:wpStill P ops w Q rest (a.put o.dst (.agg cs))):wpStill P ops w Q (o::rest) a:=by
 unfold wpStill
 rw[if_pos hw]
 unfold Oper.still execOp
 simp only[ho,hx,Instr.loadAt,Instr.sureAddr,Sem.run_bind,Sem.run_pure,Result.andThen_ok,run_loadVar_row w g t ty cs fr d hg hu hd hi]
 exact⟨rfl,h⟩
theorem qds(hw:Region.wanted o (yielded ops a.tmps)=true)(t:TypeId)(ho:o.op=.build t #[])
  (cs:Array Value) (hb:P.built t []=some cs)
  (h:wpStill P ops w Q rest (a.put o.dst (.agg cs))):wpStill P ops w Q (o::rest) a:=by
 have e:((#[]:Array (Nat×Operand)).map fun(i,x)=>(i,a.eval x)).toList=[]:=by simp
 unfold wpStill
 rw[if_pos hw]
 unfold Oper.still execOp
 simp only[ho,Sem.run_bind,run_build w t _ cs (e▸hb),Result.andThen_ok]
 exact⟨rfl,h⟩
theorem qdt(hw:Region.wanted o (yielded ops a.tmps)=true)(t:TypeId)(i j:Nat)(x y:Operand)(ho:o.op=.build t #[(i,x),(j,y)])
  (u v:Value) (hu:a.eval x=u) (hv:a.eval y=v) (cs:Array Value) (hb:P.built t [(i,u),(j,v)]=some cs)
  (h:wpStill P ops w Q rest (a.put o.dst (.agg cs))):wpStill P ops w Q (o::rest) a:=by
 subst hu hv
 have e:((#[(i,x),(j,y)]:Array (Nat×Operand)).map fun(i,x)=>(i,a.eval x)).toList=[(i,a.eval x),(j,a.eval y)]:=by simp
 unfold wpStill
 rw[if_pos hw]
 unfold Oper.still execOp
 simp only[ho,Sem.run_bind,run_build w t _ cs (e▸hb),Result.andThen_ok]
 exact⟨rfl,h⟩
end
section
variable{P:Program}{ops:Array Oper}{rest:List Oper}{o:Oper}{a:Act}{w:World}
variable{ty:TypeId}{x:Operand}
theorem qnn{Q:Act->Prop}(ho:o.op=.load ty x)(h:wpStill P ops w Q (o::rest) a):wpStill P ops w Q (o::rest) a:=h
variable{ps:Array (Nat×Operand)}
theorem qeu{Q:Act->Prop}(ho:o.op=.build ty ps)(h:wpStill P ops w Q (o::rest) a):wpStill P ops w Q (o::rest) a:=h
variable{Q:Exit->Act->World->Prop}
theorem qcc(ho:o.op=.load ty x)(h:wpList P ops Q (o::rest) a w):wpList P ops Q (o::rest) a w:=h
theorem qdj(ho:o.op=.build ty ps)(h:wpList P ops Q (o::rest) a w):wpList P ops Q (o::rest) a w:=h
theorem qbb{y:Operand}(ho:o.op=.store ty x y)(h:wpList P ops Q (o::rest) a w):wpList P ops Q (o::rest) a w:=h
end
section
variable{P:Program}{ops:Array Oper}{o:Oper}{a:Act}{w:World}{K:Act->World->Prop}{Q:Exit->Act->World->Prop}{E:Prop}
theorem qb5(hg:o.guard=none)(ty:TypeId)(x:Operand)(ho:o.op=.load ty x)
  (g:Nat) (hx:a.eval x=.pointer (some ⟨g,0,none⟩)) (t:TypeId) (cs:Array Value) (fr:Nat×Nat) (d:TypeDesc) (hr:w.heap[g]?=some (.cells cs t fr))
  (hu:P.underlying ty=some d) (hd:(match d with|.struct _|.array _ _=>true|_=>false)=true) (hi:(P.info? ty).map (·.size)=some cs.size)
  (hK:K (a.put o.dst (.agg cs)) w):if Region.wanted o (yielded ops a.tmps)=true then Oper.wp P o a w K Q else E:=by
 have hw:Region.wanted o (yielded ops a.tmps)=true:=by simp[Region.wanted,hg]
 rw[if_pos hw]
 exact wp_load_row ty x ho g hx t cs fr d hr hu hd hi hK
theorem qbo(hg:o.guard=none)(ty:TypeId)(x y:Operand)(ho:o.op=.store ty x y)
  (g:Nat) (cells:Array Value) (hx:a.eval x=.pointer (some ⟨g,0,none⟩)) (hy:a.eval y=.agg cells)
  (t:TypeId) (old:Array Value) (hr:w.heap[g]?=some (.cells old t (0,0))) (hi:(P.info? ty).map (·.size)=some cells.size)
  (hold:old.size=cells.size) (h1:cells.all (·.oneCell')=true)
  (hK:K (a.put o.dst undef) (w.setRow g cells)):if Region.wanted o (yielded ops a.tmps)=true then Oper.wp P o a w K Q else E:=by
 have hw:Region.wanted o (yielded ops a.tmps)=true:=by simp[Region.wanted,hg]
 rw[if_pos hw]
 exact wp_store_row ty x y ho g cells hx hy t old hr hi hold h1 hK
end
theorem qcx{fn:Func}{p q:Tmp}{t1 t2:TypeId}(h:fn.results = #[.cell p t1,.cell q t2])(tmps:Array Value)(w:World)(A1 A2:Addr)(v1 v2:Value)
  (hp:tmps.getD p undef=.pointer (some A1)) (hq:tmps.getD q undef=.pointer (some A2)) (h1:(loadVar t1 A1).run P w=.ok v1 w) (h2:(loadVar t2 A2).run P w=.ok v2 w) :
  (results fn tmps).run P w=.ok (.tuple #[v1,v2]) w:=by
 have hp':tmps[p]?.getD undef=.pointer (some A1):=by simpa using hp
 have hq':tmps[q]?.getD undef=.pointer (some A2):=by simpa using hq
 simp[results,h,hp',hq',asAddr,h1,h2]
end Go.Proofs.YtggfpcfkbilkmaaGreatDoor


namespace Go.Proofs
open Go.Shelf
def Tryz.lays134_ren:Go.Shelf.Ren:=⟨fun|134=>294|129=>84|n=>n,fun|53=>31|3=>3|4=>4|46=>126|5=>5|9=>9|n=>n,fun|n=>n⟩
theorem Tryz.lays134:Go.Proofs.Lays.n134 prog Tryz.lays134_ren:={
 mixed:=by kernel_rfl
 f129:=func84.trans (congrArg some Q4U)
 f134:=func294.trans (congrArg some Q4U)
 t3:=underlying3
 a3:=Tryz.isAgg3
 z3:=Tryz.sizeOf3
 v3:=Tryz.zeroValue3
 t4:=underlying4
 a4:=Tryz.isAgg4
 z4:=Tryz.sizeOf4
 v4:=Tryz.zeroValue4
 t5:=underlying5
 a5:=Tryz.isAgg5
 z5:=Tryz.sizeOf5
 v5:=Tryz.zeroValue5
 t9:=underlying9
 a9:=Tryz.isAgg9
 z9:=Tryz.sizeOf9
 v9:=Tryz.zeroValue9
 t46:=underlying126
 a46:=Tryz.isAgg126
 z46:=Tryz.sizeOf126
 v46:=Tryz.zeroValue126
 t53:=underlying31
 a53:=Tryz.isAgg31
 z53:=Tryz.sizeOf31
 v53:=Tryz.zeroValue31 }
theorem Tryz.bits_LeadingZeros64(x:Int)(w:World)(h0:0<=x)(h1:x<=18446744073709551615):
  Calls prog 294 #[.int .u64 x] w λe w'=>e=.returned (xc (64-(Lib.bitLen x.toNat:Int)))/\w'=w:=Any.bits_LeadingZeros64 Tryz.lays134 x w h0 h1
def Tryz.lays129_ren:Go.Shelf.Ren:=⟨fun|129=>84|n=>n,fun|53=>31|3=>3|4=>4|46=>126|5=>5|9=>9|n=>n,fun|n=>n⟩
theorem Tryz.lays129:Go.Proofs.Lays.n129 prog Tryz.lays129_ren:={
 mixed:=by kernel_rfl
 f129:=func84.trans (congrArg some Q4U)
 t3:=underlying3
 a3:=Tryz.isAgg3
 z3:=Tryz.sizeOf3
 v3:=Tryz.zeroValue3
 t4:=underlying4
 a4:=Tryz.isAgg4
 z4:=Tryz.sizeOf4
 v4:=Tryz.zeroValue4
 t5:=underlying5
 a5:=Tryz.isAgg5
 z5:=Tryz.sizeOf5
 v5:=Tryz.zeroValue5
 t9:=underlying9
 a9:=Tryz.isAgg9
 z9:=Tryz.sizeOf9
 v9:=Tryz.zeroValue9
 t46:=underlying126
 a46:=Tryz.isAgg126
 z46:=Tryz.sizeOf126
 v46:=Tryz.zeroValue126
 t53:=underlying31
 a53:=Tryz.isAgg31
 z53:=Tryz.sizeOf31
 v53:=Tryz.zeroValue31 }
theorem Tryz.bits_Len64(x:Int)(w:World)(h0:0<=x)(h1:x<=18446744073709551615):
  Calls prog 84 #[.int .u64 x] w λe w'=>e=.returned (xc (Lib.bitLen x.toNat))/\w'=w:=Any.bits_Len64 Tryz.lays129 x w h0 h1
def Tryz.lays264_ren:Go.Shelf.Ren:=⟨fun|264=>187|n=>n,fun|53=>31|46=>126|n=>n,fun|n=>n⟩
theorem Tryz.lays264:Go.Proofs.Lays.n264 prog Tryz.lays264_ren:={
 mixed:=by kernel_rfl
 f264:=func187.trans (congrArg some Q4U)
 t46:=underlying126
 a46:=Tryz.isAgg126
 z46:=Tryz.sizeOf126
 v46:=Tryz.zeroValue126
 t53:=underlying31
 a53:=Tryz.isAgg31
 z53:=Tryz.sizeOf31
 v53:=Tryz.zeroValue31 }
open Go.RowKit Go.Lib in
theorem Tryz.bits_Mul64(x y:Nat)(hx:x<18446744073709551616)(hy:y<18446744073709551616)(w:World):
  Calls prog 187 #[.int .u64 x,.int .u64 y] w λe w'=>e=.returned (.tuple #[.int .u64 ((x*y / 18446744073709551616:Nat):Int),.int .u64 ((x*y%18446744073709551616:Nat):Int)])/\w'=w:=Any.bits_Mul64 Tryz.lays264 x y hx hy w
namespace YtggfpcfkbilkmaaGreatDoor
open Go.RowKit
theorem add64(x y c:Int)(hx:0<=x)(hx':x<18446744073709551616)(hy:0<=y)(hy':y<18446744073709551616)(hc0:0<=c)(hc:c<=1)(w:World):(callFunc 188 #[.int .u64 x,.int .u64 y,.int .u64 c]).run prog w =
  .ok (.value (.tuple #[.int .u64 ((x+y+c)%18446744073709551616),.int .u64 ((x+y+c) / 18446744073709551616)])) w:=by
 obtain⟨x,rfl⟩:=ze hx
 obtain⟨y,rfl⟩:=ze hy
 obtain⟨c,rfl⟩:=ze hc0
 rw[run_callFunc_extern func188 Q4U Q4U Q4U (e:=add64Entry) Q4U,run_add64 x y c Q4P Q4P Q4P Q4P]
 simp only[Result.andThen]
end YtggfpcfkbilkmaaGreatDoor
end Go.Proofs


namespace Go.Proofs.YtggfpcfkbilkmaaGreatDoor
open Go.RowKit
def ndTo(v:Nat):Nat->Nat
 | 0=>0
 | n+1=>if dg v n=0 then ndTo v n else n+1
def nd(v:Nat):Nat:=ndTo v 16
theorem qzn(v n:Nat):ndTo v n<=n:=by
 induction n with
 | zero=>exact nlr _
 | succ n ih=>unfold ndTo;split<;>omega
theorem nd_le(v:Nat):nd v<=16:=qzn v 16
theorem qfv(g o v:Nat)(w:World)(hd:Digs w g o v):
  Calls prog 186 #[.pointer (some ⟨g,o,none⟩)] w λe w'=>e=.returned (xc (nd v))/\w=w':=by
 have HD:=Lib.hid hd
 clear hd
 have hle:=nd_le v
 go_enter func186,Tryz.ntmps186
 go_wp2
 go_loopw [3] (λi wr=>wr=w/\∃n:Nat,n<=16/\i=xc n/\ndTo v n=nd v) (λi _=>(intOf i).toNat)
 case atStart=>exact⟨rfl,16,nlr _,rfl,rfl⟩
 case round=>
  obtain⟨rfl,n,hn,rfl,hq⟩:=hrel
  match n,hn,hq with
  | 0,hn,hq=>
   have hq':nd v=0:=hq.symm
   go_wp2_with fail
   go_ret
   exact⟨by rw[hq'];rfl,rfl⟩
  | n+1,hn,hq=>
   have hc:=HD.out n Q4P;have e1:((n+1:Nat):Int)-1=n:=by omega
   by_cases hz:dg v n=0
   .have hq2:ndTo v n=nd v:=by rw[<-hq];rw[ndTo,if_pos hz]
    rw[hz] at hc
    go_wp2_with fail
    go_roundw
    case rel=>exact⟨by first|trivial|rfl,n,by omega,by go_num,hq2⟩
    case measure=>simp[intOf]
   .have hq2:nd v=n+1:=by rw[<-hq];rw[ndTo,if_neg hz]
    go_wp2_with fail
    go_ret
    exact⟨by rw[hq2];rfl,rfl⟩
def lb(n:Nat):Nat:=Lib.bitLen n
theorem q83(n:Nat)(h:n<18446744073709551616):lb n<=64:=Lib.bitLen_le n 64 (nlr _) h
theorem qso(n:Nat)(hn:n<18446744073709551616)(w:World):Calls prog 84 #[.int .u64 n] w λe w'=>e=.returned (xc (lb n))/\w=w':=
 (Tryz.bits_Len64 n w Q4P Q4P).mono λe w' h=>⟨h.1,h.2.symm⟩
def bl(v:Nat):Nat:=if nd v=0 then 0 else 64*(nd v-1)+lb (dg v (nd v-1))
theorem qg2(g o v:Nat)(w:World)(hd:Digs w g o v):
  Calls prog 221 #[.pointer (some ⟨g,o,none⟩)] w λe w'=>e=.returned (xc (bl v))/\w=w':=by
 have HD:=Lib.hid hd
 clear hd
 have hle:=nd_le v
 go_enter func221,Tryz.ntmps221
 go_wp2_with fail
 refine(qfv g o v _ HD.out).mono ?_
 rintro e w' ⟨rfl,rfl⟩
 by_cases hz:nd v=0
 .have hb:bl v=0:=by unfold bl;rw[if_pos hz]
  rw[hz]
  go_wp2_with fail
  go_ret
  exact⟨by rw[hb];rfl,rfl⟩
 .obtain⟨n,hn⟩:∃n,nd v=n+1:=⟨nd v-1,by omega⟩;have hb:bl v=64*n+lb (dg v n):=by unfold bl;rw[if_neg hz,hn];rfl
  rw[hn];have e1:((n+1:Nat):Int)-1=n:=by omega
  have hc:=HD.out n Q4P;have hlt:=q37 v n;have hlb:=q83 _ hlt;have hw:wrap64 (64*(n:Int)+(lb (dg v n):Int))=((64*n+lb (dg v n):Nat):Int):=by unfold wrap64;omega
  go_wp2_with fail
  refine(qso _ hlt _).mono ?_;rintro e w' ⟨rfl,rfl⟩
  go_wp2_with fail
  go_ret
  exact⟨by rw[hb];exact qne Q4P,rfl⟩
def cm(a b:Nat):Int:=if a<b then -1 else if b<a then 1 else 0
theorem qno(g o a h p b:Nat)(w:World)(hd:Digs w g o a)(he:Digs w h p b)(ha:a<Bs^16)(hb:b<Bs^16):
  Calls prog 194 #[.pointer (some ⟨g,o,none⟩),.pointer (some ⟨h,p,none⟩)] w λe w'=>e=.returned (xc (cm a b))/\Below w.heap.size w w'/\w.heap.size=w'.heap.size:=by
 have HD:=Lib.hid hd
 have HE:=Lib.hid he
 clear hd he
 go_enter func194,Tryz.ntmps194
 go_wp2
 go_loopw [5] (λi wr=>(∃n:Nat,n<=16/\i=xc (n-1)/\a / Bs^n=b / Bs^n)/\Below w.heap.size w wr/\w.heap.size=wr.heap.size) (λi _=>(intOf i+1).toNat)
 case atStart=>exact⟨⟨16,by omega,rfl,by rw[xV ha,xV hb]⟩,Below.refl _ _,rfl⟩
 case round=>
  obtain⟨⟨n,hn,rfl,hq⟩,hbel,hsz⟩:=hrel
  match n,hn,hq with
  | 0,hn,hq=>
   simp only[yK,Nat.div_one] at hq;have hc:cm a b=0:=by unfold cm;rw[if_neg Q4P,if_neg Q4P]
   go_wp2_with fail
   go_ret
   exact⟨by rw[hc];rfl,hbel,hsz⟩
  | n+1,hn,hq=>
   have e1:((n+1:Nat):Int)-1=n:=by omega
   rw[e1];have c1:wr.cell? ⟨g,o+n,none⟩=some (.int .u64 ((dg a n:Nat):Int)):=(hbel.cell (p:=⟨g,o+n,none⟩) HD.out.lt).trans (HD.out n Q4P);have c2:wr.cell? ⟨h,p+n,none⟩=some (.int .u64 ((dg b n:Nat):Int)):=(hbel.cell (p:=⟨h,p+n,none⟩) HE.out.lt).trans (HE.out n Q4P);have s1:=qdq a n;have s2:=qdq b n;rw[hq] at s1;have hbel1:Below w.heap.size w wr.drew:=hbel.drew;by_cases hlt:dg a n<dg b n
   .have hcm:cm a b = -1:=by
     unfold cm;have key:a<b:=Nat.lt_of_div_lt_div (c:=Bs^n) Q4P;rw[if_pos key]
    clear s1 s2 hq;have hlt':((dg a n:Nat):Int)<((dg b n:Nat):Int):=by omega
    go_wp2_with fail
    go_region
    go_wp2_with fail
    go_ret
    exact Q4o
   .have hlt':decide (((dg a n:Nat):Int)<((dg b n:Nat):Int))=false:=xj Q4P;by_cases hgt:dg b n<dg a n
    .have hcm:cm a b=1:=by
      unfold cm;have key:b<a:=Nat.lt_of_div_lt_div (c:=Bs^n) Q4P;rw[if_neg Q4P,if_pos key]
     clear s1 s2 hq;have hgt':((dg b n:Nat):Int)<((dg a n:Nat):Int):=by omega
     go_wp2_with fail
     go_region
     go_wp2_with fail
     go_region
     go_wp2_with fail
     go_ret
     exact Q4o
    .have hgt':decide (((dg b n:Nat):Int)<((dg a n:Nat):Int))=false:=xj Q4P;have hqq:a / Bs^n=b / Bs^n:=by omega
     clear s1 s2 hq
     go_wp2_with fail
     go_region
     go_wp2_with fail
     go_region
     go_wp2_with fail
     go_roundw
     case rel=>exact⟨⟨n,by omega,by go_num,hqq⟩,by repeat (first|with_reducible exact hbel|with_reducible apply Below.drew|with_reducible apply qbv),hsz⟩
     case measure=>simp[intOf]
def q4x(a b i:Nat):Nat->Nat:=λj=>if j<i then dg (a+b) j else 0
theorem qsp(g o a h p b:Nat)(w:World)(hd:Digs w g o a)(he:Digs w h p b):
  xa 193 #[.pointer (some ⟨g,o,none⟩),.pointer (some ⟨h,p,none⟩)] w (.tuple #[.agg (sz (a+b)),.int .u64 (cry a b 16)]):=by
 have HD:=Lib.hid hd
 have HE:=Lib.hid he
 clear hd he
 go_enter func193,Tryz.ntmps193
 go_wp2
 go_loopw [7,9] (λc i wr=>∃k:Nat,k<=16/\i=xc k/\c=.int .u64 (cry a b k)/\IsRow wr (w.heap.size+1) 137 (lim 16 (q4x a b k))/\IsRow wr w.heap.size 137 (sz 0)/\Below w.heap.size w wr) (λ_ i _=>16-(intOf i).toNat)
 case atStart=>
  refine⟨0,by omega,rfl,by rw[qo3];rfl,?_,?_,by repeat (first|with_reducible exact Below.refl _ _|with_reducible refine Below.alloc ?_ Q4V _)⟩
  .rw[qcu 16 (q4x a b 0) (dg 0) (λj _=>by rw[qhr];unfold q4x;rw[if_neg Q4P])];exact Q0T
  .exact Q2v
 case round=>
  obtain⟨k,hk,rfl,rfl,hrow,hres,hbel⟩:=hrel
  by_cases hlt:k<16
  .have c1:wr.cell? ⟨g,o+k,none⟩=some (.int .u64 ((dg a k:Nat):Int)):=(hbel.cell (p:=⟨g,o+k,none⟩) HD.out.lt).trans (HD.out k hlt);have c2:wr.cell? ⟨h,p+k,none⟩=some (.int .u64 ((dg b k:Nat):Int)):=(hbel.cell (p:=⟨h,p+k,none⟩) HE.out.lt).trans (HE.out k hlt);have c3:=hrow.cell (qdr 16 (q4x a b k) k hlt);have f3:=hrow.frozen k;have hz:=hbel.size;have q1:=q37 a k;have q2:=q37 b k;have q3:=qsm a b k;have ha:∀w:World,(callFunc 188 #[.int .u64 (dg a k:Nat),.int .u64 (dg b k:Nat),.int .u64 (cry a b k:Nat)]).run prog w =
    .ok (.value (.tuple #[.int .u64 (dg (a+b) k:Nat),.int .u64 (cry a b (k+1):Nat)])) w:=λw=>by
    rw[add64 _ _ _ Q4P Q4P Q4P Q4P Q4P Q4P]
    have e1:=qzk a b k
    have e2:=qvp a b k
    rw[show((dg a k:Nat):Int)+(dg b k:Nat)+(cry a b k:Nat)=((dg a k+dg b k+cry a b k:Nat):Int) by omega]
    rw[show(((dg a k+dg b k+cry a b k:Nat):Int)%18446744073709551616)=((dg (a+b) k:Nat):Int) by omega]
    rw[show(((dg a k+dg b k+cry a b k:Nat):Int) / 18446744073709551616)=((cry a b (k+1):Nat):Int) by omega]
   go_wp2_with fail
   go_region
   go_wp2_with fail
   go_roundw
   case rel=>
    refine⟨k+1,by omega,by go_num,rfl,?_,?_,by repeat (first|with_reducible exact hbel|with_reducible apply Below.drew|with_reducible apply qbv|with_reducible refine Below.setCell ?_ Q4V _)⟩
    .have:=hrow.drew.set k (.int .u64 (dg (a+b) k:Nat));rw[qhs 16 (q4x a b k) (q4x a b (k+1)) k _ hlt (by unfold q4x;rw[if_pos Q4P]) (λj hj hne=>by unfold q4x;by_cases hjk:j<k<;>simp[hjk,show j<k+1↔j<k by omega])] at this;exact this
    .exact hres.drew.setOther _ _ Q50
   case measure=>simp[intOf];omega
  .obtain rfl:k=16:=by omega
   rw[qcu 16 (q4x a b 16) (dg (a+b)) (λj hj=>by unfold q4x;rw[if_pos hj])] at hrow;have hrow':IsRow wr (w.heap.size+1) 137 (sz (a+b)):=hrow;clear hrow
   go_wp2_with (first|(refine wpList_load_row rfl 137 _ rfl (w.heap.size+1) rfl _ (sz (a+b)) _ _ hrow' underlying137 rfl Q4Z ?_)|(refine wpList_store_row rfl 137 _ _ rfl w.heap.size (sz (a+b)) rfl rfl _ (sz 0) hres Q4Z Q50 (qbx _) ?_))
   have hrow2:=hres.row (sz (a+b));have hl:=run_loadVar_row (P:=prog) (wr.setRow w.heap.size (sz (a+b))) w.heap.size _ 137 (sz (a+b)) _ _ hrow2 underlying137 rfl Q4Z;refine bodyPost_ret (v:=.tuple #[.agg (sz (a+b)),.int .u64 (cry a b 16:Nat)]) (by simp[results,Tryz.results193,asAddr,hl]) rfl ⟨rfl,below_setRow hbel (nlr _) _⟩
open Go Go.RowKit Sx
def limL(n:Nat)(f:Nat->Nat):List Value:=(List.range n).map λj=>.int .u64 ((f j:Nat):Int)
theorem q1r(n:Nat)(f:Nat->Nat):lim n f=⟨limL n f⟩:=rfl
theorem qj4(n:Nat)(f:Nat->Nat):(limL n f).length=n:=by simp[limL]
variable{n:Nat}
theorem qd6{f:Nat->Nat}{j:Nat}(h:j<n):(limL n f).getD j undef=.int .u64 ((f j:Nat):Int):=by simp[limL,xL,h]
theorem qo5(n:Nat)(f:Nat->Nat):(limL n f).all Value.oneCell'=true:=by simp[limL,Value.oneCell']
theorem qfw{f g:Nat->Nat}(h:∀j,j<n->f j=g j):limL n f=limL n g:=xT λj hj=>by rw[h j Q5B]
theorem qaa(n:Nat)(f:Nat->Nat):flatB (.agg ⟨limL n f⟩) n=true:=by
 simp[flatB,qj4,qo5]
theorem qad(n:Nat)(f:Nat->Nat):qai (.agg ⟨limL n f⟩)=true:=by
 simp[qai,limL,qa2]
def wiL(neg over:Bool)(v:Nat):List Value:=.bool neg :: .bool over::limL 16 (dg v)
theorem q84(neg over:Bool)(v:Nat):wi neg over v=⟨wiL neg over v⟩:=by
 apply xw.1;simp[wi,wiL,sz,q1r]
theorem qab(neg over:Bool)(v:Nat):flatB (.agg ⟨wiL neg over v⟩) 18=true:=by
 simp[flatB,wiL,qj4,qo5,Value.oneCell']
theorem qaf(neg over:Bool)(v:Nat):qai (.agg ⟨wiL neg over v⟩)=true:=by
 simp[qai,wiL,limL,qa2]
theorem qo6{F:Nat->Prop}{ρ:Rz}:∀{vs xs:List Value},All2 (Den F ρ) vs xs->xs=vs.map (den ρ)
 | [],[],_=>rfl
 | [],_::_,h=>h.elim
 | _::_,[],h=>h.elim
 | v::vs,x::xs,h=>by rw[xk,qo6 h.2,h.1.self]
theorem qfx{P:Program}{g:FuncId}{vs:List Value}{h:Hp}{v:Value}(rh:List Nat)(hv:qar v=true)(hr:∀xs w,(callFunc g xs).run P w=.ok (.enter g xs) w)
  (hc:∀(ρ:Rz)(w:World),(∀i∈rh,∀c,h[i]?=some (some c)->∀j,j<c.n->w.cell? ⟨(ρ i).1,(ρ i).2+j,none⟩=some (den1 ρ (c.f j)))->Calls P g ⟨vs.map (den ρ)⟩ w λe w'=>e=.returned v/\Below w.heap.size w w'):qae P g vs h v [] rh:=
 λh₂ hrh _ X ρ w xs H hx=>by
  have hxs:xs=vs.map (den ρ):=qo6 hx;subst hxs;refine .inr ⟨hr _ w,(hc ρ w λi hi c hic j hj=>?_).mono ?_⟩
  .obtain⟨x,hx,hd⟩:=H.cell i c ((hrh i hi).trans hic) j hj;rw[hx,hd.self]
  .exact Q1a
def Has(h:Hp)(i f v:Nat):Prop:=∃c,h[i]?=some (some c)/\f+16<=c.n/\∀j,j<16->c.f (f+j)=.int .u64 ((dg v j:Nat):Int)
theorem Has.digs{h:Hp}{i f v:Nat}(hh:Has h i f v){ρ:Rz}{w:World}{rh:List Nat}(hi:i∈rh)(hc:∀i∈rh,∀c,h[i]?=some (some c)->∀j,j<c.n->w.cell? ⟨(ρ i).1,(ρ i).2+j,none⟩=some (den1 ρ (c.f j))):Digs w (ρ i).1 ((ρ i).2+f) v:=λj hj=>by
 obtain⟨c,h1,h2,h3⟩:=hh;rw[xX,hc i hi c h1 (f+j) Q4P,h3 j hj];rfl
theorem qdk{h:Hp}{i v:Nat}{o neg over:Bool}(hi:h[i]?=some (some ⟨o,18,[(0,18,.agg ⟨wiL neg over v⟩)]⟩)):Has h i 2 v:=
 ⟨_,hi,nlr _,λj hj=>by
  refine Q1b ?_;simp only[cellIn,wiL,Nat.sub_zero];rw[show 2+j=j+1+1 by omega];simp only[List.getD_cons_succ];exact qd6 hj⟩
theorem q1s(i f v:Nat)(h:Hp)(hh:Has h i f v):qae prog 186 [.pointer (some ⟨i,f,some 0⟩)] h (xc (nd v)) [] [i]:=
 qfx [i] rfl (call186) λρ w hc=>(qfv (ρ i).1 ((ρ i).2+f) v w (hh.digs Q50 hc)).mono Q5s
theorem qmb{o:Bool}{p q:Nat}{f:Nat->Nat}(hp:p<n)(hq:q=p):Reads ⟨o,n,[(0,n,.agg ⟨limL n f⟩)]⟩ q false 1 (.int .u64 ((f p:Nat):Int)):=by
 subst hq;refine⟨hp,rfl,?_⟩;refine Q1b ?_;exact qd6 hp
theorem qj5{o neg over:Bool}{v p q:Nat}(hp:p<16)(hq:q=2+p):Reads ⟨o,18,[(0,18,.agg ⟨wiL neg over v⟩)]⟩ q false 1 (.int .u64 ((dg v p:Nat):Int)):=by
 subst hq;refine⟨by show 2+p<18;omega,rfl,?_⟩;show qa1 _ _=_;rw[qan,if_pos Q4P];simp only[cellIn,wiL,Nat.sub_zero];rw[show 2+p=p+1+1 by omega];simp only[List.getD_cons_succ];exact qd6 hp
theorem qgf{p q:Nat}{f g:Nat->Nat}{x:Int}(hp:p<n)(hq:q=p)(hx:x=((g p:Nat):Int))(hg:∀k,k<n->k≠p->g k=f k):Writes ⟨true,n,[(0,n,.agg ⟨limL n f⟩)]⟩ q 1 (.int .u64 x) ⟨true,n,[(0,n,.agg ⟨limL n g⟩)]⟩:=by
 subst hq;refine⟨rfl,hp,rfl,λk hk=>?_⟩;have hk:k<n:=hk;have e:∀f:Nat->Nat,(⟨true,n,[(0,n,.agg ⟨limL n f⟩)]⟩:Chunk).f k=.int .u64 ((f k:Nat):Int):=λf=>by
  refine Q1b ?_;exact qd6 hk
 rw[e,e];by_cases h:k=q
 .subst h;rw[if_pos Q4P,hx];rfl
 .rw[if_neg Q4P,hg k hk h]
theorem q1t(x y:Nat)(h:Hp)(hx:x<18446744073709551616)(hy:y<18446744073709551616):qae prog 187 [.int .u64 x,.int .u64 y] h (.tuple #[.int .u64 ((x*y / 18446744073709551616:Nat):Int),.int .u64 ((x*y%18446744073709551616:Nat):Int)]) [] []:=
 qaj rfl rfl (call187 _) λw=>(Tryz.bits_Mul64 x y hx hy w).mono Q5s
theorem qx7(x y c:Int)(h:Hp)(hx:0<=x)(hx':x<18446744073709551616)(hy:0<=y)(hy':y<18446744073709551616)(hc0:0<=c)(hc:c<=1):qae prog 188 [.int .u64 x,.int .u64 y,.int .u64 c] h (.tuple #[.int .u64 ((x+y+c)%18446744073709551616),.int .u64 ((x+y+c) / 18446744073709551616)]) [] []:=
 qon rfl rfl λw=>YtggfpcfkbilkmaaGreatDoor.add64 x y c hx hx' hy hy' hc0 hc w
open Go.RowKit
theorem Tryz.info_u64:(prog.info? 31).isSome=true:=by kernel_rfl
theorem Tryz.cells_u64:prog.cellsOf 31=1:=by kernel_rfl
theorem qgs(w:World){xs:Array Value}{off:Nat}{v:Value}(hx:xs[off]?=some v):(part 31 xs off).run prog w=.ok v w:=by
 have ha:(isAgg 31).run prog w=.ok false w:=by
  simp
 simp[part,Sem.run_bind,ha,hx]
theorem qhv(d n:Nat)(f g:Nat->Nat)(w:World):∀is:List Nat,(∀i∈is,i<n)->(Op.eqItems (d+1) 31 1 (lim n f) (lim n g) is).run prog w=.ok (is.all λi=>f i==g i) w
 | [],_=>by simp[Op.eqItems]
 | i::is,h=>by
  have ih:=qhv d n f g w is (λj hj=>h j (by simp[hj]));have hi:=h i Q50;have e1:=qgs w (qdr n f i hi);have e2:=qgs w (qdr n g i hi);have e3:=run_equalIn_int (P:=prog) w d 31 .u64 .u64 (f i) (g i) underlying31;simp only[Op.eqItems,Sem.run_bind,xU,e1,e2,e3,Result.andThen_ok];by_cases hfg:f i=g i
  .simp[hfg,ih]
  .have:((f i:Nat):Int)≠(g i:Nat):=by omega
   simp_all
theorem qev(u v:Nat)(hu:u<Bs^16)(hv:v<Bs^16)(w:World):(Op.equalIn 10000 137 (.agg (sz u)) (.agg (sz v))).run prog w=.ok (decide (u=v)) w:=by
 obtain⟨i,hi⟩:=Option.isSome_iff_exists.1 Tryz.info_u64;rw[run_equalIn_array (P:=prog) w 9999 (sz u) (sz v) underlying137 hi,Tryz.cells_u64];unfold sz;rw[qhv 9998 16 _ _ w (List.range 16) (λi hi=>by simpa using hi)];congr 1;by_cases h:u=v
 .subst h;simp
 .simp only[h,decide_false];rw[<-Bool.not_eq_true,xJ];intro hall;exact h (qvo 16 u v hu hv λj hj=>by simpa using hall j Q5B)
theorem qqd(u:Nat)(hu:u<Bs^16)(w:World):(Op.equalIn 10000 137 (.agg (sz u)) (.agg #[.int .u64 0,.int .u64 0,.int .u64 0,.int .u64 0,.int .u64 0,.int .u64 0,.int .u64 0,.int .u64 0,.int .u64 0,.int .u64 0,.int .u64 0,.int .u64 0,.int .u64 0,.int .u64 0,.int .u64 0,.int .u64 0])).run prog w=.ok (decide (u=0)) w:=by
 grind[qdc,qev]
theorem qsq(f:Nat->Nat):lim 16 f = #[.int .u64 (f 0:Nat),.int .u64 (f 1:Nat),.int .u64 (f 2:Nat),.int .u64 (f 3:Nat),.int .u64 (f 4:Nat),.int .u64 (f 5:Nat),.int .u64 (f 6:Nat),.int .u64 (f 7:Nat),.int .u64 (f 8:Nat),.int .u64 (f 9:Nat),.int .u64 (f 10:Nat),.int .u64 (f 11:Nat),.int .u64 (f 12:Nat),.int .u64 (f 13:Nat),.int .u64 (f 14:Nat),.int .u64 (f 15:Nat)]:=by
 rfl
theorem q1u(v:Nat):sz v = #[.int .u64 (dg v 0:Nat),.int .u64 (dg v 1:Nat),.int .u64 (dg v 2:Nat),.int .u64 (dg v 3:Nat),.int .u64 (dg v 4:Nat),.int .u64 (dg v 5:Nat),.int .u64 (dg v 6:Nat),.int .u64 (dg v 7:Nat),.int .u64 (dg v 8:Nat),.int .u64 (dg v 9:Nat),.int .u64 (dg v 10:Nat),.int .u64 (dg v 11:Nat),.int .u64 (dg v 12:Nat),.int .u64 (dg v 13:Nat),.int .u64 (dg v 14:Nat),.int .u64 (dg v 15:Nat)]:=qsq (dg v)
theorem ja3(neg over:Bool)(f:Nat->Nat): #[Value.bool neg,Value.bool over]++lim 16 f = #[.bool neg,.bool over,.int .u64 (f 0:Nat),.int .u64 (f 1:Nat),.int .u64 (f 2:Nat),.int .u64 (f 3:Nat),.int .u64 (f 4:Nat),.int .u64 (f 5:Nat),.int .u64 (f 6:Nat),.int .u64 (f 7:Nat),.int .u64 (f 8:Nat),.int .u64 (f 9:Nat),.int .u64 (f 10:Nat),.int .u64 (f 11:Nat),.int .u64 (f 12:Nat),.int .u64 (f 13:Nat),.int .u64 (f 14:Nat),.int .u64 (f 15:Nat)]:=by
 rw[qsq];simp
theorem q1v(neg over:Bool)(v:Nat):wi neg over v = #[.bool neg,.bool over,.int .u64 (dg v 0:Nat),.int .u64 (dg v 1:Nat),.int .u64 (dg v 2:Nat),.int .u64 (dg v 3:Nat),.int .u64 (dg v 4:Nat),.int .u64 (dg v 5:Nat),.int .u64 (dg v 6:Nat),.int .u64 (dg v 7:Nat),.int .u64 (dg v 8:Nat),.int .u64 (dg v 9:Nat),.int .u64 (dg v 10:Nat),.int .u64 (dg v 11:Nat),.int .u64 (dg v 12:Nat),.int .u64 (dg v 13:Nat),.int .u64 (dg v 14:Nat),.int .u64 (dg v 15:Nat)]:=ja3 neg over (dg v)
theorem qnp(neg over:Bool):wi neg over 0 = #[.bool neg,.bool over,.int .u64 0,.int .u64 0,.int .u64 0,.int .u64 0,.int .u64 0,.int .u64 0,.int .u64 0,.int .u64 0,.int .u64 0,.int .u64 0,.int .u64 0,.int .u64 0,.int .u64 0,.int .u64 0,.int .u64 0,.int .u64 0]:=by
 grind[wi,qdc]
def qe6:Nat:=1023
def Top:Nat:=2^qe6
theorem qx8(n:Nat):Bs^n=2^(64*n):=by
 rw[Nat.pow_mul]
theorem qx9(a b:Nat)(h:a<b):2^a<2^b:=Nat.pow_lt_pow_right Q4T h
theorem q1w(n:Nat)(h:qe6<64*n):Top<Bs^n:=by
 rw[qx8];exact qx9 _ _ h
theorem qb6:Top<Bs^16:=q1w 16 Q4T
theorem qhw(v:Nat):∀n,v<Bs^n->v<Bs^ndTo v n
 | 0,h=>h
 | n+1,h=>by
  rw[ndTo];split
  .rename_i hz;refine qhw v n ?_;have s:=qdq v n;rw[hz,xV h] at s;simp_all
  .exact h
theorem qo7(v:Nat):∀n,ndTo v n=0\/dg v (ndTo v n-1)≠0
 | 0=>.inl rfl
 | n+1=>by
  rw[ndTo];split
  .exact qo7 v n
  simp_all
theorem qdu:∀(f x:Nat),x<2^f->x<2^Lib.bitLenAux f x/\(x≠0->2^(Lib.bitLenAux f x-1)<=x/\0<Lib.bitLenAux f x)
 | 0,x,h=>by
  have:x=0:=by simpa using h
  subst this;exact⟨by simp[Lib.bitLenAux],λh=>absurd rfl h⟩
 | f+1,x,h=>by
  rw[Lib.bitLenAux];split
  .omega
  .rename_i hz;obtain⟨h1,h2⟩:=qdu f (x / 2) (by rw[yJ] at h;omega);refine⟨by rw[Nat.add_comm,yJ];omega,λ_=>⟨?_,by omega⟩⟩;rw[show 1+Lib.bitLenAux f (x / 2)-1=Lib.bitLenAux f (x / 2) by omega];by_cases hh:x / 2=0
   .have:Lib.bitLenAux f (x / 2)=0:=by rw[hh];cases f<;>simp[Lib.bitLenAux]
    grind
   grind[Nat.succ_pred_eq_of_pos,yJ]
theorem qnq(v:Nat)(hv:v<Bs^16):v<2^bl v/\(v≠0->2^(bl v-1)<=v/\0<bl v):=by
 have hlt:=qhw v 16 hv;have htop:=qo7 v 16;have e0:ndTo v 16=nd v:=rfl;rw[e0] at hlt htop;rcases htop with h0|h0
 .grind
 .by_cases hz:nd v=0
  .grind
  obtain⟨n,hn⟩:∃n,nd v=n+1:=⟨nd v-1,by omega⟩;have hb:bl v=64*n+lb (dg v n):=by unfold bl;rw[if_neg hz,hn];rfl
  rw[hn] at hlt h0;have h0':dg v n≠0:=h0;have hd:v / Bs^n=dg v n:=by
   grind[qdq,xV]
  obtain⟨b1,b2⟩:=qdu 64 (dg v n) (q37 v n);obtain⟨b3,b4⟩:=b2 h0';have e1:Lib.bitLenAux 64 (dg v n)=lb (dg v n):=rfl;rw[e1] at b1 b3 b4;have eB:=qx8 n;rw[hb];refine⟨?_,λ_=>⟨?_,by omega⟩⟩
  .grind[yd]
  .rw[show 64*n+lb (dg v n)-1=64*n+(lb (dg v n)-1) by omega,xG,<-eB,xq,<-Nat.le_div_iff_mul_le (qcb n),hd];exact b3
theorem qg3(v k:Nat)(hv:v<Bs^16)(h:v<2^k):bl v<=k:=by
 obtain⟨h1,h2⟩:=qnq v hv;by_cases hz:v=0
 .subst hz;have:bl 0=0:=by decide
  omega
 .obtain⟨h3,h4⟩:=h2 hz;have:bl v-1<k:=(Nat.pow_lt_pow_iff_right Q4T).1 (x8 h3 h);omega
theorem qvs(x:Int):prog.built 137 [(0,.int .u64 x)]=some #[.int .u64 x,.int .u64 0,.int .u64 0,.int .u64 0,.int .u64 0,.int .u64 0,.int .u64 0,.int .u64 0,.int .u64 0,.int .u64 0,.int .u64 0,.int .u64 0,.int .u64 0,.int .u64 0,.int .u64 0,.int .u64 0]:=by kernel_rfl
theorem qg4(v:Nat)(h:v<18446744073709551616):prog.built 137 [(0,.int .u64 v)]=some (sz v):=by
 grind[qvr,qvs]
theorem qhx:prog.built 137 []=some (sz 0):=by
 rw[qdc];kernel_rfl
theorem qfy(neg:Bool)(v:Nat):prog.built 139 [(0,.bool neg),(2,.agg (sz v))]=some (wi neg false v):=by
 rw[q1u,q1v];kernel_rfl
def zi(z:Int):Array Value:=wi (decide (z<0)) false z.natAbs
@[simp] theorem zi_size(z:Int):(zi z).size=18:=wi_size _ _ _
theorem qzo(v:Nat)(h:0<v/\v<=9223372036854775808)(w:World):xa 111 #[xc (-(v:Int))] w (.agg (wi true false v)):=by
 have hB:Below w.heap.size w w:=Below.refl _ _;have hr:=IsRow.new w (wi false false 0) 139;rw[qnp] at hr;obtain⟨h0,h1⟩:=h;have hwr:IntKind.u64.wrap (-IntKind.u64.wrap (-(v:Int)))=v:=by
  show((-((-(v:Int))%18446744073709551616))%18446744073709551616:Int)=v;omega
 have hb1:prog.built 137 [(0,.int .u64 (IntKind.u64.wrap (-IntKind.u64.wrap (-(v:Int)))))]=some (sz v):=by rw[hwr];exact qg4 v Q4P
 clear hwr;have hn : -(v:Int)<0:=by omega
 have hb2:=qfy true v
 go_enter func111,Tryz.ntmps111
 go_wp2_with (first|(refine qdj (ty:=137) rfl ?_;refine qcw ?_ 137 0 _ rfl (.int .u64 (IntKind.u64.wrap (-IntKind.u64.wrap (-(v:Int))))) rfl (sz v) (hb1) ?_;(focus rfl))|(refine qdj (ty:=139) rfl ?_;refine qft ?_ 139 0 2 _ _ rfl (.bool true) (.agg (sz v)) rfl rfl (wi true false v) (hb2) ?_;(focus rfl))|(refine qbb (ty:=139) rfl ?_;refine wpList_store_row ?_ 139 _ _ rfl (w.heap.size) (wi true false v) rfl rfl _ (_) (hr) Q5c Q50 (qhu _ _ _) ?_;(focus rfl))|fail)
 exact bodyPost_ret Q4q rfl ⟨rfl,below_setRow (hB.alloc (nlr _) _) (nlr _) _⟩
theorem qsr(v:Nat)(h:v<9223372036854775808)(w:World):xa 111 #[xc ((v:Int))] w (.agg (wi false false v)):=by
 have hB:Below w.heap.size w w:=Below.refl _ _;have hr:=IsRow.new w (wi false false 0) 139;rw[qnp] at hr;have hwr:IntKind.u64.wrap (v:Int)=v:=by
  show((v:Int)%18446744073709551616:Int)=v;omega
 have hb1:prog.built 137 [(0,.int .u64 (v:Int))]=some (sz v):=qg4 v Q4P;have hn:¬ (v:Int)<0:=by omega
 have hb2:=qfy false v
 go_enter func111,Tryz.ntmps111
 go_wp2_with (first|(refine qdj (ty:=137) rfl ?_;refine qcw ?_ 137 0 _ rfl (.int .u64 (v:Int)) rfl (sz v) (hb1) ?_;(focus rfl))|(refine qdj (ty:=139) rfl ?_;refine qft ?_ 139 0 2 _ _ rfl (.bool false) (.agg (sz v)) rfl rfl (wi false false v) (hb2) ?_;(focus rfl))|(refine qbb (ty:=139) rfl ?_;refine wpList_store_row ?_ 139 _ _ rfl (w.heap.size) (wi false false v) rfl rfl _ (_) (hr) Q5c Q50 (qhu _ _ _) ?_;(focus rfl))|fail)
 exact bodyPost_ret Q4q rfl ⟨rfl,below_setRow (hB.alloc (nlr _) _) (nlr _) _⟩
theorem qzp(n:Int)(h0 : -9223372036854775808<=n)(h1:n<9223372036854775808)(w:World):xa 111 #[xc n] w (.agg (zi n)):=by
 by_cases hn:n<0
 .have:=qzo n.natAbs Q4P w;rw[show -(n.natAbs:Int)=n by omega] at this;unfold zi;rw[xg hn];exact this
 .have:=qsr n.natAbs Q4P w;rw[show(n.natAbs:Int)=n by omega] at this;unfold zi;rw[xj hn];exact this
theorem qo8(neg:Bool)(v:Nat)(hv:v<Top)(w:World):xa 189 #[.bool neg,.agg (sz v)] w (.agg (wi (neg&&decide (v≠0)) false v)):=by
 have hv16:v<Bs^16:=xM hv qb6;have hbl:bl v<=1023:=qg3 v qe6 hv16 hv;have hB:Below w.heap.size w w:=Below.refl _ _;have hr:=(IsRow.new w (sz v) 137).alloc (.cells (wi false false 0) 139);have hr2:=IsRow.new (w.alloc (.cells (sz v) 137)) (wi false false 0) 139;have hdg:=Digs.of_sz hr;rw[qnp] at hdg hr hr2;have HD:=Lib.hid hdg;clear hdg;have hB2:Below w.heap.size w ((w.alloc (.cells (sz v) 137)).alloc (.cells #[.bool false,.bool false,.int .u64 0,.int .u64 0,.int .u64 0,.int .u64 0,.int .u64 0,.int .u64 0,.int .u64 0,.int .u64 0,.int .u64 0,.int .u64 0,.int .u64 0,.int .u64 0,.int .u64 0,.int .u64 0,.int .u64 0,.int .u64 0] 139)):=by
  refine Below.alloc (Below.alloc hB ?_ _) ?_ _
  .exact nlr _
  .simp
 go_enter func189,Tryz.ntmps189
 go_wp2_with fail
 refine(qg2 w.heap.size 0 v _ HD.out).mono ?_;rintro e w' ⟨rfl,rfl⟩;clear HD;cases neg
 .go_wp2_with fail
  rw[show(w.alloc (.cells (sz v) 137)).heap.size=w.heap.size+1 by simp] at hr2;generalize hW:((w.alloc (.cells (sz v) 137)).alloc (.cells #[.bool false,.bool false,.int .u64 0,.int .u64 0,.int .u64 0,.int .u64 0,.int .u64 0,.int .u64 0,.int .u64 0,.int .u64 0,.int .u64 0,.int .u64 0,.int .u64 0,.int .u64 0,.int .u64 0,.int .u64 0,.int .u64 0,.int .u64 0] 139))=W at hr hr2 hB2 ⊢;clear hW;have heq:=qev v 0 hv16 (qcb 16) W.drew;clear heq;refine wp_region_still_tail 8 Q4U Q4U ?_;simp only[List.take_succ_cons,List.take_zero,List.drop_succ_cons,List.drop_zero]
  repeat (first|(refine qnn (ty:=137) rfl ?_;refine qcm ?_ 137 _ rfl (w.heap.size) rfl _ (sz v) _ _ (hr.drew) underlying137 rfl Q4Z ?_;(focus (first|rfl|(go_simp;done))))|(refine qeu (ty:=137) rfl ?_;refine qds ?_ 137 rfl (sz 0) (qhx) ?_;(focus (first|rfl|(go_simp;done))))|(refine qeu (ty:=139) rfl ?_;refine qdt ?_ 139 0 2 _ _ rfl (.bool false) (.agg (sz v)) rfl rfl (wi false false v) (qfy _ _) ?_;(focus (first|rfl|(go_simp;done))))|still_step)
  refine wpStill_nil ?_;change wpList _ _ _ _ _ W.drew
  go_wp2_with (refine qbb (ty:=139) rfl ?_;refine wpList_store_row ?_ 139 _ _ rfl (w.heap.size+1) (wi false false v) rfl rfl _ (_) (hr2.drew) Q5c Q50 (qhu _ _ _) ?_;(focus rfl))
  exact bodyPost_ret Q49 rfl ⟨by rw[show(false&&decide (v≠0))=false by simp],below_setRow hB2.drew Q4P _⟩
 .by_cases hz:v=0
  .have HZ:=Lib.hid hz;clear hz
   go_wp2_with fail
   rw[show(w.alloc (.cells (sz v) 137)).heap.size=w.heap.size+1 by simp] at hr2;generalize hW:((w.alloc (.cells (sz v) 137)).alloc (.cells #[.bool false,.bool false,.int .u64 0,.int .u64 0,.int .u64 0,.int .u64 0,.int .u64 0,.int .u64 0,.int .u64 0,.int .u64 0,.int .u64 0,.int .u64 0,.int .u64 0,.int .u64 0,.int .u64 0,.int .u64 0,.int .u64 0,.int .u64 0] 139))=W at hr hr2 hB2 ⊢;clear hW;have heq:=qev v 0 hv16 (qcb 16) W.drew;rw[xg HZ.out] at heq;refine wp_region_still_tail 8 Q4U Q4U ?_;simp only[List.take_succ_cons,List.take_zero,List.drop_succ_cons,List.drop_zero]
   repeat (first|(refine qnn (ty:=137) rfl ?_;refine qcm ?_ 137 _ rfl (w.heap.size) rfl _ (sz v) _ _ (hr.drew) underlying137 rfl Q4Z ?_;(focus (first|rfl|(go_simp;done))))|(refine qeu (ty:=137) rfl ?_;refine qds ?_ 137 rfl (sz 0) (qhx) ?_;(focus (first|rfl|(go_simp;done))))|(refine qeu (ty:=139) rfl ?_;refine qdt ?_ 139 0 2 _ _ rfl (.bool false) (.agg (sz v)) rfl rfl (wi false false v) (qfy _ _) ?_;(focus (first|rfl|(go_simp;done))))|still_step)
   refine wpStill_nil ?_;change wpList _ _ _ _ _ W.drew
   go_wp2_with (refine qbb (ty:=139) rfl ?_;refine wpList_store_row ?_ 139 _ _ rfl (w.heap.size+1) (wi false false v) rfl rfl _ (_) (hr2.drew) Q5c Q50 (qhu _ _ _) ?_;(focus rfl))
   exact bodyPost_ret Q49 rfl ⟨by rw[show(true&&decide (v≠0))=false by simp[HZ.out]],below_setRow hB2.drew Q4P _⟩
  .have HZ:=Lib.hid hz;clear hz
   go_wp2_with fail
   rw[show(w.alloc (.cells (sz v) 137)).heap.size=w.heap.size+1 by simp] at hr2;generalize hW:((w.alloc (.cells (sz v) 137)).alloc (.cells #[.bool false,.bool false,.int .u64 0,.int .u64 0,.int .u64 0,.int .u64 0,.int .u64 0,.int .u64 0,.int .u64 0,.int .u64 0,.int .u64 0,.int .u64 0,.int .u64 0,.int .u64 0,.int .u64 0,.int .u64 0,.int .u64 0,.int .u64 0] 139))=W at hr hr2 hB2 ⊢;clear hW;have heq:=qev v 0 hv16 (qcb 16) W.drew;rw[xj HZ.out] at heq;refine wp_region_still_tail 8 Q4U Q4U ?_;simp only[List.take_succ_cons,List.take_zero,List.drop_succ_cons,List.drop_zero]
   repeat (first|(refine qnn (ty:=137) rfl ?_;refine qcm ?_ 137 _ rfl (w.heap.size) rfl _ (sz v) _ _ (hr.drew) underlying137 rfl Q4Z ?_;(focus (first|rfl|(go_simp;done))))|(refine qeu (ty:=137) rfl ?_;refine qds ?_ 137 rfl (sz 0) (qhx) ?_;(focus (first|rfl|(go_simp;done))))|(refine qeu (ty:=139) rfl ?_;refine qdt ?_ 139 0 2 _ _ rfl (.bool true) (.agg (sz v)) rfl rfl (wi true false v) (qfy _ _) ?_;(focus (first|rfl|(go_simp;done))))|still_step)
   refine wpStill_nil ?_;change wpList _ _ _ _ _ W.drew
   go_wp2_with (refine qbb (ty:=139) rfl ?_;refine wpList_store_row ?_ 139 _ _ rfl (w.heap.size+1) (wi true false v) rfl rfl _ (_) (hr2.drew) Q5c Q50 (qhu _ _ _) ?_;(focus rfl))
   exact bodyPost_ret Q49 rfl ⟨by rw[show(true&&decide (v≠0))=true by simp[HZ.out]],below_setRow hB2.drew Q4P _⟩
theorem qzq(v p q M:Nat)(hp:0<p)(hq:0<q)(hM:0<M):v*p / (M*(p*q))=v / (M*(p*q))*p+v / M%(p*q) / q:=by
 have h1:v / (M*(p*q))=v / M / (p*q):=by rw[yI]
 have h2:=xK v M;have h3:=xK (v / M) (p*q);have h4:v*p / (M*(p*q))=v / M / q:=by
  rw[show M*(p*q)=M*q*p by rw[xq p q,xR],Nat.mul_div_mul_right _ _ hp,yI]
 rw[h4,h1];generalize v / M=x at *;have h5:x=x / (p*q)*(p*q)+x%(p*q):=by rw[xq];exact h3.symm
 conv=>lhs;rw[h5]
 rw[show x / (p*q)*(p*q)=q*(x / (p*q)*p) by rw[<-xR,xq q,xR]];rw[yT hq]
theorem qfz(k:Nat)(hk:k<64):Bs=2^k*2^(64-k):=by rw[<-xG,show k+(64-k)=64 by omega]
theorem qvt(v k:Nat):dg (v*2^k) 0=dg v 0*2^k%18446744073709551616:=by
 unfold dg;rw[yK,Nat.div_one,Nat.div_one];show _=v%Bs*2^k%Bs;rw[Nat.mod_mul_mod]
theorem qvu(v k n:Nat)(hk:k<64)(hn:0<n):dg (v*2^k) n=dg v n*2^k%18446744073709551616+dg v (n-1) / 2^(64-k):=by
 obtain⟨m,rfl⟩:∃m,n=m+1:=⟨n-1,by omega⟩;have hM:=qcb m;have hp:0<2^k:=yz Q4T;have hq:0<2^(64-k):=yz Q4T;have g:=qzq v (2^k) (2^(64-k)) (Bs^m) hp hq hM;have e:=qfz k hk;have hd0:=xB (v / Bs^m) qe1;rw[show m+1-1=m from rfl];unfold dg;show v*2^k / Bs^(m+1)%Bs=v / Bs^(m+1)%Bs*2^k%Bs+v / Bs^m%Bs / 2^(64-k);rw[yJ];generalize 2^k=p at *;generalize 2^(64-k)=q at *;rw[<-e] at g;rw[g];generalize v / (Bs^m*Bs)=x at *;generalize v / Bs^m%Bs=d at *;generalize Bs=B at *;subst e;have h1:d / q<p:=by rw[yd hq];exact hd0
 have h2:x%(p*q)*p%(p*q)=x%q*p:=by
  rw[Nat.mod_mul_mod,xq x p,Nat.mul_mod_mul_left,xq]
 have h3:=xK x q;rw[h2];have h4:x*p+d / q=p*q*(x / q)+(x%q*p+d / q):=by
  have:x*p=p*q*(x / q)+x%q*p:=by
   conv=>lhs;rw[<-h3]
   rw[x6,xq (q*(x / q)) p,<-xR]
  omega
 rw[h4,y3,ya];have h5:=xB x hq;have h6:(x%q+1)*p<=q*p:=yy _ h5;rw[x6] at h6;rw[xq p q];omega
theorem qgg(x k:Nat):IntKind.u64.wrap ((x:Int)*2^k)=((x*2^k%18446744073709551616:Nat):Int):=by
 rw[xm];generalize h:x*2^k=y;have:(x:Int)*2^k=(y:Nat):=by rw[<-h];exact_mod_cast rfl
 rw[this];omega
theorem qcd(x k:Nat):(x:Int) / 2^k=((x / 2^k:Nat):Int):=by exact_mod_cast rfl
theorem qss(a b:Nat)(ha:a<18446744073709551616)(hb:b<18446744073709551616):bits .or .u64 (a:Int) (b:Int)=((a ||| b:Nat):Int):=
 (bits_nat .u64 64 Q4T (λn h0 h1=>by rw[xm];omega) a b ha hb).2
theorem q85(x y k:Nat)(hk0:0<k)(hk:k<64)(hy:y<18446744073709551616):
  bits .or .u64 (IntKind.u64.wrap ((x:Int)*2^k)) ((y:Int) / 2^(64-k))=((x*2^k%18446744073709551616+y / 2^(64-k):Nat):Int):=by
 have h1:=xB (x*2^k) qe1
 have h2:y / 2^(64-k)<2^k:=by
  rw[yd (yz Q4T),<-qfz k hk];exact hy
 have h3:2^k<=2^63:=ye Q4T Q4P
 rw[qgg,qcd,qss _ _ h1 Q4P]
 have h4:x*2^k%18446744073709551616=2^k*(x%2^(64-k)):=by
  show x*2^k%Bs=_;rw[qfz k hk,xq x,Nat.mul_mod_mul_left]
 rw[h4,Nat.two_pow_add_eq_or_of_lt h2]
theorem qzr(x y k:Nat)(hk0:0<k)(hk:k<64)(hx:x<18446744073709551616):
  bits .or .u64 ((x:Int) / 2^k) (IntKind.u64.wrap ((y:Int)*2^(64-k)))=((x / 2^k+y*2^(64-k)%18446744073709551616:Nat):Int):=by
 have h1:=xB (y*2^(64-k)) qe1
 have e:Bs=2^(64-k)*2^k:=by rw[xq];exact qfz k hk
 have h2:x / 2^k<2^(64-k):=by
  rw[yd (yz Q4T),<-e];exact hx
 have h3:2^(64-k)<=2^63:=ye Q4T Q4P
 rw[qgg,qcd,qss _ _ Q4P h1]
 have h4:y*2^(64-k)%18446744073709551616=2^(64-k)*(y%2^k):=by
  show y*2^(64-k)%Bs=_;rw[e,xq y,Nat.mul_mod_mul_left]
 rw[h4,Nat.or_comm,<-Nat.two_pow_add_eq_or_of_lt h2,Nat.add_comm]
open Go.RowKit
theorem qo9(m:Nat)(f g:Nat->Nat)(i:Nat)(u:Value)(x:Int)(hi:i<m)(hv:x=((g i:Nat):Int))(h:∀j,j<m->j≠i->f j=g j):((lim m f).setIfInBounds i u).setIfInBounds i (.int .u64 x)=lim m g:=by
 rw[<-qhs m f g i x hi hv h];apply y6;intro j;simp only[yY,Array.size_setIfInBounds];split<;>simp_all
def upTo(v k n:Nat):Nat->Nat:=λj=>if n<=j then dg (v*2^k) j else 0
theorem qmc(v k n j:Nat)(h:j≠n):upTo v k (n+1) j=upTo v k n j:=by
 unfold upTo;by_cases hj:n<=j<;>simp[hj,show n+1<=j↔n<j from Iff.rfl]<;>omega
theorem qst(v k n:Nat):upTo v k n n=dg (v*2^k) n:=by unfold upTo;rw[if_pos (nlr _)]
theorem q1x(g o v k:Nat)(hk:k<64)(w:World)(hd:Digs w g o v):
  xa 295 #[.pointer (some ⟨g,o,none⟩),xc k] w (.agg (sz (v*2^k))):=by
 have HD:=Lib.hid hd
 clear hd
 have q0:(k:Int) / 64=0:=by omega
 have q1:(k:Int).tdiv 64=0:=Int.tdiv_eq_zero_of_lt Q4P Q4P
 have q2:(k:Int).tmod 64=k:=Int.tmod_eq_of_lt Q4P Q4P
 have q3:(k:Int)%64=k:=by omega
 go_enter func295,Tryz.ntmps295
 go_wp2
 go_loopw [6] (λi wr=>∃n:Nat,n<=16/\i=xc (n-1)/\IsRow wr (w.heap.size+1) 137 (lim 16 (upTo v k n))/\IsRow wr w.heap.size 137 (sz 0)/\Below w.heap.size w wr) (λi _=>(intOf i+1).toNat)
 case atStart=>
  refine⟨16,by omega,rfl,?_,?_,by repeat (first|with_reducible exact Below.refl _ _|with_reducible refine Below.alloc ?_ Q4V _)⟩
  .rw[qcu 16 (upTo v k 16) (dg 0) (λj hj=>by rw[qhr];unfold upTo;rw[if_neg Q4P])];exact Q0T
  .exact Q2v
 case round=>
  obtain⟨n,hn,rfl,hrow,hres,hbel⟩:=hrel
  match n,hn with
  | 0,hn=>
   rw[qcu 16 (upTo v k 0) (dg (v*2^k)) (λj hj=>by unfold upTo;rw[if_pos Q4P])] at hrow;have hrow':IsRow wr (w.heap.size+1) 137 (sz (v*2^k)):=hrow;clear hrow
   go_wp2_with (first|(refine qcc (ty:=137) rfl ?_;refine wpList_load_row ?_ 137 _ rfl (w.heap.size+1) rfl _ (sz (v*2^k)) _ _ (hrow') underlying137 rfl Q4Z ?_;(focus rfl))|(refine qbb (ty:=137) rfl ?_;refine wpList_store_row ?_ 137 _ _ rfl (w.heap.size) (sz (v*2^k)) rfl rfl _ (_) (hres) Q4Z Q50 (qbx _) ?_;(focus rfl))|fail)
   exact bodyPost_ret (results_cell_row Tryz.results295 _ _ w.heap.size _ _ _ _ rfl (hres.row _) underlying137 rfl Q4Z) rfl ⟨rfl,below_setRow hbel (nlr _) _⟩
  | n+1,hn=>
   have e1:((n+1:Nat):Int)-1=n:=by omega
   rw[e1];have c1:wr.cell? ⟨g,o+n,none⟩=some (.int .u64 ((dg v n:Nat):Int)):=(hbel.cell (p:=⟨g,o+n,none⟩) HD.out.lt).trans (HD.out n Q4P);have c3:=hrow.cell (qdr 16 (upTo v k (n+1)) n Q4P);have f3:=hrow.frozen n;have hz:=hbel.size;have hrow1:=hrow.set n (.int .u64 (IntKind.u64.wrap (((dg v n:Nat):Int)*2^k)));have hres1:IsRow (wr.setCell ⟨w.heap.size+1,n,none⟩ (.int .u64 (IntKind.u64.wrap (((dg v n:Nat):Int)*2^k)))) w.heap.size 137 (sz 0):=hres.setOther _ _ Q50;have hbel1:Below w.heap.size w (wr.setCell ⟨w.heap.size+1,n,none⟩ (.int .u64 (IntKind.u64.wrap (((dg v n:Nat):Int)*2^k)))):=hbel.setCell Q50 _;by_cases hk0:0<k/\0<n
   .obtain⟨hk0,hn0⟩:=hk0
    go_wp2_with fail
    clear c1 c3 f3 hrow hres hbel;generalize wr.setCell ⟨w.heap.size+1,n,none⟩ (.int .u64 (IntKind.u64.wrap (((dg v n:Nat):Int)*2^k)))=W at *;have c2:W.cell? ⟨g,o+(n-1),none⟩=some (.int .u64 ((dg v (n-1):Nat):Int)):=(hbel1.cell (p:=⟨g,o+(n-1),none⟩) HD.out.lt).trans (HD.out (n-1) Q4P);have c3:W.cell? ⟨w.heap.size+1,n,none⟩=some (.int .u64 (IntKind.u64.wrap (((dg v n:Nat):Int)*2^k))):=hrow1.cell Q66;have f3:=hrow1.frozen n
    go_region
    go_wp2_with fail
    go_roundw
    case rel=>
     refine⟨n,by omega,by go_num,?_,hres1.setOther _ _ Q50,(hbel1.setCell Q50 _).drew⟩
     have h2:=hrow1.set n (.int .u64 (bits .or .u64 (IntKind.u64.wrap (((dg v n:Nat):Int)*2^k)) (((dg v (n-1):Nat):Int) / 2^(64-k))))
     rw[qo9 16 (upTo v k (n+1)) (upTo v k n) n _ _ Q4P (by rw[q85 _ _ _ hk0 hk (q37 _ _),qst,qvu v k n hk hn0]) (λj _ hj=>qmc v k n j hj)] at h2
     exact h2
    case measure=>simp[intOf]
   .have hval:IntKind.u64.wrap (((dg v n:Nat):Int)*2^k)=((upTo v k n n:Nat):Int):=by
     rw[qgg,qst];by_cases hn0:n=0
     .subst hn0;rw[qvt]
     .obtain rfl:k=0:=by omega
      rw[yK,xU,xU,ya (q37 v n)]
    rw[qhs 16 (upTo v k (n+1)) (upTo v k n) n _ Q4P hval (λj _ hj=>qmc v k n j hj)] at hrow1;have HV:=Lib.hid hval;clear hval;by_cases hk1:0<k
    .have hn0:¬ 0<n:=λh=>hk0 ⟨hk1,h⟩
     have hn1:decide ((n:Int) > 0)=false:=xj Q4P;clear hk0;exact Q1Q
    .clear hk0;have hk2:decide ((k:Int) > 0)=false:=xj Q4P;exact Q1Q
def qcp(v k n:Nat):Nat->Nat:=λj=>if j<n then dg (v / 2^k) j else 0
theorem qhy(v k n j:Nat)(h:j≠n):qcp v k n j=qcp v k (n+1) j:=by
 grind[qcp]
theorem qmd(v k n:Nat):qcp v k (n+1) n=dg (v / 2^k) n:=by grind[qcp]
theorem qvv(g o v k:Nat)(hk:k<64)(hv:v<Bs^16)(w:World)(hd:Digs w g o v):
  Calls prog 297 #[.pointer (some ⟨g,o,none⟩),xc k] w λe w'=>(∃b,e=.returned (.tuple #[.agg (sz (v / 2^k)),.bool b]))/\Below w.heap.size w w':=by
 have HD:=Lib.hid hd
 clear hd
 have q0:(k:Int) / 64=0:=by omega
 have q1:(k:Int).tdiv 64=0:=Int.tdiv_eq_zero_of_lt Q4P Q4P
 have q2:(k:Int).tmod 64=k:=Int.tmod_eq_of_lt Q4P Q4P
 have q3:(k:Int)%64=k:=by omega
 go_enter func297,Tryz.ntmps297
 go_wp2
 have hrow0:IsRow ((w.alloc (.cells #[.int .u64 0,.int .u64 0,.int .u64 0,.int .u64 0,.int .u64 0,.int .u64 0,.int .u64 0,.int .u64 0,.int .u64 0,.int .u64 0,.int .u64 0,.int .u64 0,.int .u64 0,.int .u64 0,.int .u64 0,.int .u64 0] 137)).alloc (.cells #[.int .u64 0,.int .u64 0,.int .u64 0,.int .u64 0,.int .u64 0,.int .u64 0,.int .u64 0,.int .u64 0,.int .u64 0,.int .u64 0,.int .u64 0,.int .u64 0,.int .u64 0,.int .u64 0,.int .u64 0,.int .u64 0] 137)) (w.heap.size+1) 137 (sz 0):=Q0T
 have hres0:IsRow ((w.alloc (.cells #[.int .u64 0,.int .u64 0,.int .u64 0,.int .u64 0,.int .u64 0,.int .u64 0,.int .u64 0,.int .u64 0,.int .u64 0,.int .u64 0,.int .u64 0,.int .u64 0,.int .u64 0,.int .u64 0,.int .u64 0,.int .u64 0] 137)).alloc (.cells #[.int .u64 0,.int .u64 0,.int .u64 0,.int .u64 0,.int .u64 0,.int .u64 0,.int .u64 0,.int .u64 0,.int .u64 0,.int .u64 0,.int .u64 0,.int .u64 0,.int .u64 0,.int .u64 0,.int .u64 0,.int .u64 0] 137)) w.heap.size 137 (sz 0):=Q2v
 have hbel0:Below w.heap.size w ((w.alloc (.cells #[.int .u64 0,.int .u64 0,.int .u64 0,.int .u64 0,.int .u64 0,.int .u64 0,.int .u64 0,.int .u64 0,.int .u64 0,.int .u64 0,.int .u64 0,.int .u64 0,.int .u64 0,.int .u64 0,.int .u64 0,.int .u64 0] 137)).alloc (.cells #[.int .u64 0,.int .u64 0,.int .u64 0,.int .u64 0,.int .u64 0,.int .u64 0,.int .u64 0,.int .u64 0,.int .u64 0,.int .u64 0,.int .u64 0,.int .u64 0,.int .u64 0,.int .u64 0,.int .u64 0,.int .u64 0] 137)):=by
  repeat (first|with_reducible exact Below.refl _ _|with_reducible refine Below.alloc ?_ Q4V _)
 generalize ((w.alloc (.cells #[.int .u64 0,.int .u64 0,.int .u64 0,.int .u64 0,.int .u64 0,.int .u64 0,.int .u64 0,.int .u64 0,.int .u64 0,.int .u64 0,.int .u64 0,.int .u64 0,.int .u64 0,.int .u64 0,.int .u64 0,.int .u64 0] 137)).alloc (.cells #[.int .u64 0,.int .u64 0,.int .u64 0,.int .u64 0,.int .u64 0,.int .u64 0,.int .u64 0,.int .u64 0,.int .u64 0,.int .u64 0,.int .u64 0,.int .u64 0,.int .u64 0,.int .u64 0,.int .u64 0,.int .u64 0] 137))=W0 at hrow0 hres0 hbel0 ⊢
 go_loopw [7,13] (λr i wr=>wr=W0/\r=.bool false/\i=xc 0) (λ_ _ _=>0)
 case atStart=>exact⟨rfl,rfl,rfl⟩
 case round=>
  obtain⟨e0,rfl,rfl⟩:=hrel
  have e1:=e0.symm
  clear e0
  subst e1
  go_wp2_with fail
  go_loopw [9] (λi wr=>∃n:Nat,n<=16/\i=xc n/\IsRow wr (w.heap.size+1) 137 (lim 16 (qcp v k n))/\IsRow wr w.heap.size 137 (sz 0)/\Below w.heap.size w wr) (λi _=>16-(intOf i).toNat)
  case atStart=>
   refine⟨0,by omega,rfl,?_,hres0,hbel0⟩
   rw[qcu 16 (qcp v k 0) (dg 0) (λj hj=>by rw[qhr];unfold qcp;rw[if_neg Q4P])]
   exact hrow0
  case round=>
   obtain⟨n,hn,rfl,hrow,hres,hbel⟩:=hrel
   by_cases hlt:n<16
   .have c1:wr.cell? ⟨g,o+n,none⟩=some (.int .u64 ((dg v n:Nat):Int)):=(hbel.cell (p:=⟨g,o+n,none⟩) HD.out.lt).trans (HD.out n Q4P);have c3:=hrow.cell (qdr 16 (qcp v k n) n hlt);have f3:=hrow.frozen n;have hz:=hbel.size;have hrow1:=hrow.set n (.int .u64 (((dg v n:Nat):Int) / 2^k));have hres1:IsRow (wr.setCell ⟨w.heap.size+1,n,none⟩ (.int .u64 (((dg v n:Nat):Int) / 2^k))) w.heap.size 137 (sz 0):=hres.setOther _ _ Q50;have hbel1:Below w.heap.size w (wr.setCell ⟨w.heap.size+1,n,none⟩ (.int .u64 (((dg v n:Nat):Int) / 2^k))):=hbel.setCell Q50 _;by_cases hk0:0<k/\n+1<16
    .obtain⟨hk0,hn0⟩:=hk0
     go_wp2_with fail
     clear c1 c3 f3 hrow hres hbel;generalize wr.setCell ⟨w.heap.size+1,n,none⟩ (.int .u64 (((dg v n:Nat):Int) / 2^k))=W at *;have c2:W.cell? ⟨g,o+(n+1),none⟩=some (.int .u64 ((dg v (n+1):Nat):Int)):=(hbel1.cell (p:=⟨g,o+(n+1),none⟩) HD.out.lt).trans (HD.out (n+1) Q4P);have c3:W.cell? ⟨w.heap.size+1,n,none⟩=some (.int .u64 (((dg v n:Nat):Int) / 2^k)):=hrow1.cell Q66;have f3:=hrow1.frozen n
     go_region
     go_wp2_with fail
     go_roundw
     case rel=>
      refine⟨n+1,by omega,by go_num,?_,hres1.setOther _ _ Q50,(hbel1.setCell Q50 _).drew⟩
      have h2:=hrow1.set n (.int .u64 (bits .or .u64 (((dg v n:Nat):Int) / 2^k) (IntKind.u64.wrap (((dg v (n+1):Nat):Int)*2^(64-k)))))
      rw[qo9 16 (qcp v k n) (qcp v k (n+1)) n _ _ Q4P (by rw[qzr _ _ _ hk0 hk (q37 _ _),qmd,qo4 v n k hk]) (λj _ hj=>qhy v k n j hj)] at h2
      exact h2
     case measure=>simp[intOf];omega
    .have hval:((dg v n:Nat):Int) / 2^k=((qcp v k (n+1) n:Nat):Int):=by
      rw[qcd,qmd,qo4 v n k hk];by_cases hn0:n+1<16
      .obtain rfl:k=0:=by omega
       rw[show dg v (n+1)*2^(64-0)%18446744073709551616=0 from Nat.mul_mod_left _ _,yo]
      .obtain rfl:n=15:=by omega
       rw[qi1 v 16 hv,Nat.zero_mul,Nat.zero_mod,yo]
     rw[qhs 16 (qcp v k n) (qcp v k (n+1)) n _ Q4P hval (λj _ hj=>qhy v k n j hj)] at hrow1;have HV:=Lib.hid hval;clear hval;by_cases hk1:0<k
     .have hn0:¬ n+1<16:=λh=>hk0 ⟨hk1,h⟩
      have hn1:decide ((n:Int)+1<16)=false:=xj Q4P;clear hk0;exact Q1J
     .clear hk0;have hk2:decide ((k:Int) > 0)=false:=xj Q4P;exact Q1J
   .obtain rfl:n=16:=by omega
    have c1:wr.cell? ⟨g,o,none⟩=some (.int .u64 ((dg v 0:Nat):Int)):=(hbel.cell (p:=⟨g,o,none⟩) HD.out.lt).trans (HD.out 0 Q4P);rw[qcu 16 (qcp v k 16) (dg (v / 2^k)) (λj hj=>by unfold qcp;rw[if_pos hj])] at hrow;have hrow':IsRow wr (w.heap.size+1) 137 (sz (v / 2^k)):=hrow;clear hrow;by_cases hk1:0<k
    .exact Q0q
    .have hk2:decide ((k:Int) > 0)=false:=xj Q4P;exact Q0q
open Go.RowKit
theorem qpa(lo y:Nat)(hlo:lo<18446744073709551616)(hy0:0<y)(hy:y<18446744073709551616)(w:World):
  xa 293 #[.int .u64 0,.int .u64 lo,.int .u64 y] w (.tuple #[.int .u64 (lo / y:Nat),.int .u64 (lo%y:Nat)]):=by
 have hB:Below w.heap.size w w:=Below.refl _ _
 have h1:((y:Int)==0)=false:=by simp;omega
 have h2:¬ (y:Int)<=0:=by omega
 have h3:(lo:Int).tdiv y=((lo / y:Nat):Int):=rfl
 have h4:(lo:Int).tmod y=((lo%y:Nat):Int):=rfl
 have h5:lo / y<18446744073709551616:=x8 (yL _ _) hlo
 have h6:lo%y<18446744073709551616:=x8 (Nat.mod_le _ _) hlo
 go_enter func293,Tryz.ntmps293
 go_wp2_with fail
 go_region
 go_wp2_with fail
 have e1:IntKind.u64.wrap ((lo:Int) / (y:Int))=((lo / y:Nat):Int):=by
  rw[show(lo:Int) / (y:Int)=((lo / y:Nat):Int) from rfl,xm];generalize lo / y=q at *;omega
 have e2:(lo:Int)%(y:Int)=((lo%y:Nat):Int):=rfl
 exact bodyPost_ret (v:=.tuple #[.int .u64 (lo / y:Nat),.int .u64 (lo%y:Nat)]) (by simp[results,Tryz.results293,e1]) rfl ⟨rfl,hB.drew⟩
def q5r(a b n:Nat):Nat->Nat:=λj=>if n<=j then dg (a / b) j else 0
theorem qsu(a b n j:Nat)(h:j≠n):q5r a b (n+1) j=q5r a b n j:=by
 grind[q5r]
theorem qzs(a b n:Nat):q5r a b n n=dg (a / b) n:=by grind[q5r]
def rm(a b i:Nat):Nat:=a / Bs^i%b
theorem qsv(a b:Nat):cm a b<0↔a<b:=by grind[cm]
theorem qya(b:Nat)(h0:0<b)(h:b<18446744073709551616):nd b=1:=by
 have key:∀n,ndTo b (n+1)=1:=by
  intro n
  induction n with
  | zero=>
   grind[ndTo,qcv]
  | succ n ih=>rw[ndTo,if_pos (by rw[qcv b h];simp),ih]
 exact key 15
theorem qi2(a b:Nat)(ha:a<Bs^16)(hb0:0<b)(hb:b<18446744073709551616)
  (H:∀(i:Nat)(w:World),i<nd a->Calls prog 293 #[.int .u64 (rm a b (i+1):Nat),.int .u64 (dg a i:Nat),.int .u64 (b:Nat)] w λe w'=>
   e=.returned (.tuple #[.int .u64 (dg (a / b) i:Nat),.int .u64 (rm a b i:Nat)])/\Below w.heap.size w w') (w:World) :
  xa 269 #[.agg (sz a),.agg (sz b)] w (.tuple #[.agg (sz (a / b)),.agg (sz (a%b))]):=by
 have hb16:b<Bs^16:=xh hb (yU Q4T Bs)
 have hB:Below w.heap.size w w:=Below.refl _ _
 go_enter func269,Tryz.ntmps269
 go_wp2_with fail
 have r0:IsRow ((((((w.alloc (.cells (sz a) 137)).alloc (.cells (sz b) 137)).alloc (.cells (sz 0) 137)).alloc (.cells (sz 0) 137)).alloc (.cells (sz 0) 137)).alloc (.cells (sz 0) 137)) w.heap.size 137 (sz a):=(((((IsRow.new w (sz a) 137).alloc (.cells (sz b) 137)).alloc (.cells (sz 0) 137)).alloc (.cells (sz 0) 137)).alloc (.cells (sz 0) 137)).alloc (.cells (sz 0) 137)
 have r1:IsRow ((((((w.alloc (.cells (sz a) 137)).alloc (.cells (sz b) 137)).alloc (.cells (sz 0) 137)).alloc (.cells (sz 0) 137)).alloc (.cells (sz 0) 137)).alloc (.cells (sz 0) 137)) (w.heap.size+1) 137 (sz b):=by
  have h:=((((IsRow.new (w.alloc (.cells (sz a) 137)) (sz b) 137).alloc (.cells (sz 0) 137)).alloc (.cells (sz 0) 137)).alloc (.cells (sz 0) 137)).alloc (.cells (sz 0) 137);rw[show(w.alloc (.cells (sz a) 137)).heap.size=w.heap.size+1 by simp] at h;exact h
 have r2:IsRow ((((((w.alloc (.cells (sz a) 137)).alloc (.cells (sz b) 137)).alloc (.cells (sz 0) 137)).alloc (.cells (sz 0) 137)).alloc (.cells (sz 0) 137)).alloc (.cells (sz 0) 137)) (w.heap.size+1+1) 137 (sz 0):=by
  have h:=(((IsRow.new ((w.alloc (.cells (sz a) 137)).alloc (.cells (sz b) 137)) (sz 0) 137).alloc (.cells (sz 0) 137)).alloc (.cells (sz 0) 137)).alloc (.cells (sz 0) 137);rw[show((w.alloc (.cells (sz a) 137)).alloc (.cells (sz b) 137)).heap.size=w.heap.size+1+1 by simp] at h;exact h
 have r3:IsRow ((((((w.alloc (.cells (sz a) 137)).alloc (.cells (sz b) 137)).alloc (.cells (sz 0) 137)).alloc (.cells (sz 0) 137)).alloc (.cells (sz 0) 137)).alloc (.cells (sz 0) 137)) (w.heap.size+1+1+1) 137 (sz 0):=by
  have h:=((IsRow.new (((w.alloc (.cells (sz a) 137)).alloc (.cells (sz b) 137)).alloc (.cells (sz 0) 137)) (sz 0) 137).alloc (.cells (sz 0) 137)).alloc (.cells (sz 0) 137);rw[show(((w.alloc (.cells (sz a) 137)).alloc (.cells (sz b) 137)).alloc (.cells (sz 0) 137)).heap.size=w.heap.size+1+1+1 by simp] at h;exact h
 have r4:IsRow ((((((w.alloc (.cells (sz a) 137)).alloc (.cells (sz b) 137)).alloc (.cells (sz 0) 137)).alloc (.cells (sz 0) 137)).alloc (.cells (sz 0) 137)).alloc (.cells (sz 0) 137)) (w.heap.size+1+1+1+1) 137 (sz 0):=by
  have h:=(IsRow.new ((((w.alloc (.cells (sz a) 137)).alloc (.cells (sz b) 137)).alloc (.cells (sz 0) 137)).alloc (.cells (sz 0) 137)) (sz 0) 137).alloc (.cells (sz 0) 137);rw[show((((w.alloc (.cells (sz a) 137)).alloc (.cells (sz b) 137)).alloc (.cells (sz 0) 137)).alloc (.cells (sz 0) 137)).heap.size=w.heap.size+1+1+1+1 by simp] at h;exact h
 have hB0:Below w.heap.size w ((((((w.alloc (.cells (sz a) 137)).alloc (.cells (sz b) 137)).alloc (.cells (sz 0) 137)).alloc (.cells (sz 0) 137)).alloc (.cells (sz 0) 137)).alloc (.cells (sz 0) 137)):=Q20
 have hsz0:((((((w.alloc (.cells (sz a) 137)).alloc (.cells (sz b) 137)).alloc (.cells (sz 0) 137)).alloc (.cells (sz 0) 137)).alloc (.cells (sz 0) 137)).alloc (.cells (sz 0) 137)).heap.size=w.heap.size+6:=by simp
 rw[<-qdc]
 generalize ((((((w.alloc (.cells (sz a) 137)).alloc (.cells (sz b) 137)).alloc (.cells (sz 0) 137)).alloc (.cells (sz 0) 137)).alloc (.cells (sz 0) 137)).alloc (.cells (sz 0) 137))=W at r0 r1 r2 r3 r4 hB0 hsz0 ⊢
 refine(qno w.heap.size 0 a (w.heap.size+1) 0 b W (Digs.of_sz r0) (Digs.of_sz r1) ha hb16).mono ?_
 rintro e w1 ⟨rfl,hb1,hs1⟩
 have l0:=r0.below hb1 r0.lt
 have l1:=r1.below hb1 r1.lt
 have l2:=r2.below hb1 r2.lt
 have l3:=r3.below hb1 r3.lt
 have l4:=r4.below hb1 r4.lt
 have hB1:Below w.heap.size w w1:=hB0.trans (hb1.mono Q4P)
 have hz1:w1.heap.size=w.heap.size+6:=by omega
 clear r0 r1 r2 r3 r4 hb1 hB0 hs1 hsz0 hB
 by_cases hab:a<b
 .have hc:cm a b = -1:=by unfold cm;rw[if_pos hab]
  rw[hc];clear hc
  go_wp2_with fail
  refine wp_region_any Q4U ?_;change wpAny _ _ _ _ _ _ _ (World.drew _);refine wpAny_ready (rs:=[0,1]) Q4U Q50 ?_;refine AllReady.cons rfl (λK hK=>?_) (AllReady.cons rfl (λK hK=>?_) AllReady.nil)
  .refine qb5 rfl 137 _ rfl (w.heap.size+1+1+1+1) rfl _ (sz 0) _ _ (l4.drew) underlying137 rfl Q4Z ?_;refine hK _ _ ?_;clear hK K;refine wpAny_ready (rs:=[1,2]) Q4U Q50 ?_;refine AllReady.cons rfl (λK hK=>?_) (AllReady.cons rfl (λK hK=>?_) AllReady.nil)
   .refine qb5 rfl 137 _ rfl (w.heap.size) rfl _ (sz a) _ _ (l0.drew) underlying137 rfl Q4Z ?_;refine hK _ _ ?_;clear hK K;refine wpAny_ready (rs:=[2]) Q4U Q50 ?_;refine AllReady.cons rfl (λK hK=>?_) AllReady.nil;refine qbo rfl 137 _ _ rfl (w.heap.size+1+1) (sz 0) rfl rfl _ _ (l2.drew) Q4Z Q50 (qbx _) ?_;refine hK _ _ ?_;clear hK K;refine wpAny_ready (rs:=[3]) Q4U Q50 ?_;refine AllReady.cons rfl (λK hK=>?_) AllReady.nil;refine qbo rfl 137 _ _ rfl (w.heap.size+1+1+1) (sz a) rfl rfl _ _ (l3.drew.rowOther (w.heap.size+1+1) (sz 0) Q4P) Q4Z Q50 (qbx _) ?_;refine hK _ _ ?_;clear hK K;refine wpAny_done Q4U ?_ _
    go_wp2_with fail
    have m2:=(l2.drew.row (sz 0)).rowOther (w.heap.size+1+1+1) (sz a) Q4P;have m3:=(l3.drew.rowOther (w.heap.size+1+1) (sz 0) Q4P).row (sz a);have h2:=run_loadVar_row (P:=prog) _ _ _ 137 _ _ _ m2 underlying137 rfl Q4Z;have h3:=run_loadVar_row (P:=prog) _ _ _ 137 _ _ _ m3 underlying137 rfl Q4Z;exact bodyPost_ret Q4n rfl ⟨by rw[xV hab,ya hab],below_setRow (below_setRow hB1.drew Q4P _) Q4P _⟩
   .refine qbo rfl 137 _ _ rfl (w.heap.size+1+1) (sz 0) rfl rfl _ _ (l2.drew) Q4Z Q50 (qbx _) ?_;refine hK _ _ ?_;clear hK K;refine wpAny_ready (rs:=[1]) Q4U Q50 ?_;refine AllReady.cons rfl (λK hK=>?_) AllReady.nil;refine qb5 rfl 137 _ rfl (w.heap.size) rfl _ (sz a) _ _ (l0.drew.rowOther (w.heap.size+1+1) (sz 0) Q4P) underlying137 rfl Q4Z ?_;refine hK _ _ ?_;clear hK K;refine wpAny_ready (rs:=[3]) Q4U Q50 ?_;refine AllReady.cons rfl (λK hK=>?_) AllReady.nil;refine qbo rfl 137 _ _ rfl (w.heap.size+1+1+1) (sz a) rfl rfl _ _ (l3.drew.rowOther (w.heap.size+1+1) (sz 0) Q4P) Q4Z Q50 (qbx _) ?_;refine hK _ _ ?_;clear hK K;refine wpAny_done Q4U ?_ _
    go_wp2_with fail
    have m2:=(l2.drew.row (sz 0)).rowOther (w.heap.size+1+1+1) (sz a) Q4P;have m3:=(l3.drew.rowOther (w.heap.size+1+1) (sz 0) Q4P).row (sz a);have h2:=run_loadVar_row (P:=prog) _ _ _ 137 _ _ _ m2 underlying137 rfl Q4Z;have h3:=run_loadVar_row (P:=prog) _ _ _ 137 _ _ _ m3 underlying137 rfl Q4Z;exact bodyPost_ret Q4n rfl ⟨by rw[xV hab,ya hab],below_setRow (below_setRow hB1.drew Q4P _) Q4P _⟩
  .refine qb5 rfl 137 _ rfl (w.heap.size) rfl _ (sz a) _ _ (l0.drew) underlying137 rfl Q4Z ?_;refine hK _ _ ?_;clear hK K;refine wpAny_ready (rs:=[0]) Q4U Q50 ?_;refine AllReady.cons rfl (λK hK=>?_) AllReady.nil;refine qb5 rfl 137 _ rfl (w.heap.size+1+1+1+1) rfl _ (sz 0) _ _ (l4.drew) underlying137 rfl Q4Z ?_;refine hK _ _ ?_;clear hK K;refine wpAny_ready (rs:=[2]) Q4U Q50 ?_;refine AllReady.cons rfl (λK hK=>?_) AllReady.nil;refine qbo rfl 137 _ _ rfl (w.heap.size+1+1) (sz 0) rfl rfl _ _ (l2.drew) Q4Z Q50 (qbx _) ?_;refine hK _ _ ?_;clear hK K;refine wpAny_ready (rs:=[3]) Q4U Q50 ?_;refine AllReady.cons rfl (λK hK=>?_) AllReady.nil;refine qbo rfl 137 _ _ rfl (w.heap.size+1+1+1) (sz a) rfl rfl _ _ (l3.drew.rowOther (w.heap.size+1+1) (sz 0) Q4P) Q4Z Q50 (qbx _) ?_;refine hK _ _ ?_;clear hK K;refine wpAny_done Q4U ?_ _
   go_wp2_with fail
   have m2:=(l2.drew.row (sz 0)).rowOther (w.heap.size+1+1+1) (sz a) Q4P;have m3:=(l3.drew.rowOther (w.heap.size+1+1) (sz 0) Q4P).row (sz a);have h2:=run_loadVar_row (P:=prog) _ _ _ 137 _ _ _ m2 underlying137 rfl Q4Z;have h3:=run_loadVar_row (P:=prog) _ _ _ 137 _ _ _ m3 underlying137 rfl Q4Z;exact bodyPost_ret Q4n rfl ⟨by rw[xV hab,ya hab],below_setRow (below_setRow hB1.drew Q4P _) Q4P _⟩
 .have hc:decide (cm a b<0)=false:=xj (by rw[qsv];exact hab);have hn1:=qya b hb0 hb
  go_wp2_with fail
  refine(qfv w.heap.size 0 a _ (Digs.of_sz l0)).mono ?_;rintro e w' ⟨rfl,rfl⟩
  go_wp2_with fail
  refine(qfv (w.heap.size+1) 0 b _ (Digs.of_sz l1)).mono ?_;rintro e w' ⟨rfl,rfl⟩;rw[hn1];have hna:=nd_le a;have hlt:=qhw a 16 ha;rw[show ndTo a 16=nd a from rfl] at hlt
  go_wp2_with fail
  go_loopw [10,11] (λl i wr=>∃n:Nat,n<=nd a/\i=xc (n-1)/\l=.int .u64 (rm a b n:Nat)/\IsRow wr w.heap.size 137 (sz a)/\IsRow wr (w.heap.size+1) 137 (sz b)/\IsRow wr (w.heap.size+1+1) 137 (sz 0)/\IsRow wr (w.heap.size+1+1+1) 137 (sz 0)/\IsRow wr (w.heap.size+1+1+1+1) 137 (lim 16 (q5r a b n))/\Below w.heap.size w wr) (λ_ i _=>(intOf i+1).toNat)
  case atStart=>
   refine⟨nd a,nlr _,rfl,by unfold rm;rw[xV hlt,Nat.zero_mod];rfl,l0,l1,l2,l3,?_,hB1⟩
   rw[qcu 16 (q5r a b (nd a)) (dg 0) (λj hj=>by
    rw[qhr];unfold q5r;split
    .exact qi1 _ _ (x8 (yL _ _) (xh hlt (ye qe1 Q4P)))
    .rfl)]
   exact l4
  case round=>
   clear l0 l1 l2 l3 l4 hB1 hz1
   obtain⟨n,hn,rfl,rfl,l0,l1,l2,l3,l4,hB1⟩:=hrel
   match n,hn with
   | 0,hn=>
    rw[qcu 16 (q5r a b 0) (dg (a / b)) (λj hj=>by unfold q5r;rw[if_pos Q4P])] at l4;have l4':IsRow wr (w.heap.size+1+1+1+1) 137 (sz (a / b)):=l4;clear l4;have hrm:rm a b 0=a%b:=by unfold rm;rw[yK,Nat.div_one]
    have hbm:a%b<18446744073709551616:=xM (xB a hb0) hb;have hbt:prog.built 137 [(0,.int .u64 ((rm a b 0:Nat):Int))]=some (sz (a%b)):=by rw[hrm];exact qg4 (a%b) hbm
    clear hrm
    go_wp2_with (first|(refine qcc (ty:=137) rfl ?_;refine wpList_load_row ?_ 137 _ rfl (w.heap.size+1+1+1+1) rfl _ (sz (a / b)) _ _ (l4') underlying137 rfl Q4Z ?_;(focus rfl))|(refine qdj (ty:=137) rfl ?_;refine qcw ?_ 137 0 _ rfl (.int .u64 ((rm a b 0:Nat):Int)) rfl (sz (a%b)) (hbt) ?_;(focus rfl))|(refine qbb (ty:=137) rfl ?_;refine wpList_store_row ?_ 137 _ _ rfl (w.heap.size+1+1) (sz (a / b)) rfl rfl _ (_) (l2) Q4Z Q50 (qbx _) ?_;(focus rfl))|(refine qbb (ty:=137) rfl ?_;refine wpList_store_row ?_ 137 _ _ rfl (w.heap.size+1+1+1) (sz (a%b)) rfl rfl _ (_) (l3.rowOther (w.heap.size+1+1) (sz (a / b)) Q4P) Q4Z Q50 (qbx _) ?_;(focus rfl))|fail)
    have m2:=(l2.row (sz (a / b))).rowOther (w.heap.size+1+1+1) (sz (a%b)) Q4P;have m3:=(l3.rowOther (w.heap.size+1+1) (sz (a / b)) Q4P).row (sz (a%b));have h2:=run_loadVar_row (P:=prog) _ _ _ 137 _ _ _ m2 underlying137 rfl Q4Z;have h3:=run_loadVar_row (P:=prog) _ _ _ 137 _ _ _ m3 underlying137 rfl Q4Z;exact bodyPost_ret Q4n rfl ⟨rfl,below_setRow (below_setRow hB1 Q4P _) Q4P _⟩
   | n+1,hn=>
    have e1:((n+1:Nat):Int)-1=n:=by omega
    rw[e1];have i0:(0:Int)<=(n:Int):=by omega
    have i1:(n:Int)<16:=by omega
    have i2:(n:Int)<=16:=by omega
    have i3:(n:Int).toNat=n:=by omega
    have c0:=l0.cell (qht a n Q4P);have c1:=l1.cell (qht b 0 Q4P);rw[show dg b 0=b by rw[qcv b hb];rfl] at c1;have c4:=l4.cell (qdr 16 (q5r a b (n+1)) n Q4P);have f4:=l4.frozen n;have hz:=hB1.size
    go_wp2_with fail
    go_region_held3 (λw'=>w'.cell? ⟨w.heap.size,n,none⟩=some (.int .u64 (dg a n:Nat))/\w'.cell? ⟨w.heap.size+1,0,none⟩=some (.int .u64 (b:Nat))) (first|exact⟨c0,c1⟩|exact⟨k0,k1⟩|(refine⟨?_,?_⟩<;>(repeat (first|with_reducible assumption|with_reducible refine qii ?_|with_reducible refine qdb ?_|with_reducible refine qjs ?_|with_reducible refine qjr ?_ (by first|(simp only[ne_eq,Addr.mk.injEq,and_true];omega)|(simp;done)|(simp;omega))));done)|(go_keep;done))
     (first|(go_at_call 293;refine(H n _ Q4P).mono ?_;rintro e w1 ⟨rfl,hbw⟩;have m0:=l0.drew.below hbw l0.lt;have m1:=l1.drew.below hbw l1.lt;have m2:=l2.drew.below hbw l2.lt;have m3:=l3.drew.below hbw l3.lt;have m4:=l4.drew.below hbw l4.lt;have hB:=hB1.drew.trans (hbw.mono hz);have k0:=m0.cell (qht a n Q4P);have k1:=m1.cell (show(sz b)[0]?=some (.int .u64 (b:Nat)) by rw[qht b 0 Q4P,qcv b hb];rfl);have k4:=m4.cell (qdr 16 (q5r a b (n+1)) n Q4P);have kf:=m4.frozen n))
    all_goals
     go_wp2_with fail
     go_roundw
    all_goals first
     | (case measure=>simp[intOf])
     | (case rel=>
       refine⟨n,by omega,rfl,rfl,m0.setOther _ _ Q5x,m1.setOther _ _ Q5x,m2.setOther _ _ Q5x,m3.setOther _ _ Q5x,?_,hB.setCell (by show w.heap.size<=w.heap.size+1+1+1+1;omega) _⟩;have hs:=m4.set n (.int .u64 (dg (a / b) n:Nat));rw[qhs 16 (q5r a b (n+1)) (q5r a b n) n _ Q4P (by rw[qzs]) (λj _ hj=>qsu a b n j hj)] at hs;exact hs)
end Go.Proofs.YtggfpcfkbilkmaaGreatDoor


namespace Go.Proofs.YtggfpcfkbilkmaaGreatDoor.Knuth
abbrev h:Nat:=4294967296
variable{y1 y0 u d q r:Nat}
structure Guess(y1 y0 u d q r:Nat):Prop where
 sum:q*y1+r=u
 ge:(u*h+d) / (y1*h+y0)<=q
 le:q<=h+1
theorem digit_lt(hd:d<h)(hu:u<y1*h+y0):(u*h+d) / (y1*h+y0)<h:=by
 rw[yd Q4P]
 grind
theorem first(hy1:2147483648<=y1)(hy1':y1<h)(hy0:y0<h)(hd:d<h)(hu:u<y1*h+y0):Guess y1 y0 u d (u / y1) (u%y1):=by
 have hp:0<y1:=by omega
 refine⟨by rw[xq];exact xK u y1,?_,?_⟩
 ·-- the digit is at most u / y1
  have e1:(u*h+d) / (y1*h+y0)<=(u*h+d) / (y1*h):=Nat.div_le_div_left Q4P (by simp only[h];omega);have e2:(u*h+d) / (y1*h)=u / y1:=by
   rw[xq y1,<-yI,xq u,yT Q4T,xV hd,yo]
  omega
 .have:u / y1<h+2:=by
   rw[yd hp,x6]
   grind
  omega
theorem qsw(hp:0<y1*h+y0)(hs:q*y1+r=u)(hg:h*r+d<q*y0):(u*h+d) / (y1*h+y0)<q:=by
 rw[yd hp]
 grind
theorem jcm(hp:0<y1*h+y0)(hs:q*y1+r=u)(hg:q*y0<=h*r+d):q<=(u*h+d) / (y1*h+y0):=by
 rw[Nat.le_div_iff_mul_le hp]
 grind
theorem down(hd:d<h)(hu:u<y1*h+y0)(g:Guess y1 y0 u d q r)(ht:h<=q\/h*r+d<q*y0):0<q/\Guess y1 y0 u d (q-1) (r+y1):=by
 have hp:0<y1*h+y0:=by omega
 have hlt:=digit_lt hd hu;have hq:(u*h+d) / (y1*h+y0)<q:=by
  rcases ht with h1|h1
  .omega
  .exact qsw hp g.sum h1
 have h0:0<q:=x8 (xo _) hq;obtain⟨k,rfl⟩:∃k,q=k+1:=⟨q-1,by omega⟩;refine⟨h0,⟨?_,by simp only[Nat.add_sub_cancel];omega,by have:=g.le;simp only[Nat.add_sub_cancel];omega⟩⟩;have:=g.sum
 grind
theorem stop(hd:d<h)(hu:u<y1*h+y0)(g:Guess y1 y0 u d q r)(hq:q<h)(ht:q*y0<=h*r+d):q=(u*h+d) / (y1*h+y0):=by
 have:=jcm Q4P g.sum ht;have:=g.ge;omega
theorem stop'(hy0:y0<h)(hd:d<h)(hu:u<y1*h+y0)(g:Guess y1 y0 u d q r)(hq:q<=h)(hr:h<=r):q=(u*h+d) / (y1*h+y0):=by
 have e1:q*y0<=h*y0:=yy _ hq;have e2:h*h<=h*r:=Nat.mul_le_mul_left _ hr;have e3:h*y0<=h*h:=Nat.mul_le_mul_left _ (Nat.le_of_lt hy0);have:=jcm Q4P g.sum (show q*y0<=h*r+d by omega);have:=g.ge;omega
theorem two(u d1 d0 Y:Nat)(hY:0<Y):(u*h*h+d1*h+d0) / Y=(u*h+d1) / Y*h+((u*h+d1)%Y*h+d0) / Y/\(u*h*h+d1*h+d0)%Y=((u*h+d1)%Y*h+d0)%Y:=by
 have e0:=xK (u*h+d1) Y;have e:u*h*h+d1*h+d0=Y*((u*h+d1) / Y*h)+((u*h+d1)%Y*h+d0):=by
  grind
 rw[e,yT hY,y3];omega
theorem words(hi lo s:Nat)(hs:s<64):(hi*18446744073709551616+lo)*2^s=(hi*2^s+lo / 2^(64-s))*18446744073709551616+lo*2^s%18446744073709551616:=by
 have e:(18446744073709551616:Nat)=2^(64-s)*2^s:=by rw[<-xG,show 64-s+s=64 by omega]
 grind[Nat.mul_div_mul_right,xK]
theorem back(n y s:Nat):n*2^s / (y*2^s)=n / y/\n*2^s%(y*2^s) / 2^s=n%y:=by
 grind[Nat.mul_div_mul_right,Nat.mul_mod_mul_right,Nat.mul_div_cancel]
theorem join(u l d1 d0:Nat)(el:l=d1*4294967296+d0):u*18446744073709551616+l=u*h*h+d1*h+d0:=by
 grind
end Go.Proofs.YtggfpcfkbilkmaaGreatDoor.Knuth


namespace Go.Proofs.YtggfpcfkbilkmaaGreatDoor
open Go.RowKit
def d64q(hi lo y:Nat):Nat:=(hi*18446744073709551616+lo) / y
def d64r(hi lo y:Nat):Nat:=(hi*18446744073709551616+lo)%y
theorem q1y(y:Nat)(hy:y<18446744073709551616)(w:World):Calls prog 294 #[.int .u64 y] w λe w'=>e=.returned (xc (64-(lb y:Int)))/\w=w':=
 (Tryz.bits_LeadingZeros64 y w Q4P Q4P).mono λe w' h=>⟨h.1,h.2.symm⟩
theorem qqe(y:Nat)(h0:0<y)(hy:y<18446744073709551616):∃s:Nat,s<64/\(64:Int)-(lb y:Int)=(s:Int)/\9223372036854775808<=y*2^s/\y*2^s<18446744073709551616:=by
 obtain⟨b1,b2⟩:=qdu 64 y hy;obtain⟨b3,b4⟩:=b2 Q4P;have e:Lib.bitLenAux 64 y=lb y:=rfl;rw[e] at b1 b3 b4;have hl:=q83 y hy;refine⟨64-lb y,by omega,by omega,?_,?_⟩
 .have:2^(lb y-1)*2^(64-lb y)=9223372036854775808:=by
   rw[<-xG,show lb y-1+(64-lb y)=63 by omega]
  rw[<-this];exact yy _ b3
 .have:2^lb y*2^(64-lb y)=18446744073709551616:=by
   rw[<-xG,show lb y+(64-lb y)=64 by omega]
  rw[<-this];exact zg b1 (yz Q4T)
theorem qsx(x:Nat)(hx:x<18446744073709551616):bits .and .u64 (x:Int) 4294967295=((x%4294967296:Nat):Int):=by
 have:=(bits_nat .u64 64 Q4T (λn h0 h1=>by rw[xm];omega) x 4294967295 hx Q4T).1;refine this.trans ?_;rw[show(4294967295:Nat)=2^32-1 from rfl,Nat.and_two_pow_sub_one_eq_mod]
theorem qvw(hi lo s:Nat)(hs:s<64)(h1:hi*2^s<18446744073709551616)(hlo:lo<18446744073709551616):
  bits .or .u64 (IntKind.u64.wrap ((hi:Int)*2^s)) ((lo:Int) / 2^(64-s))=((hi*2^s+lo / 2^(64-s):Nat):Int):=by
 by_cases h0:0<s
 .grind[q85]
 .obtain rfl:s=0:=by omega
  rw[qgg,qcd,qss _ _ (xB _ Q4T) (x8 (yL _ _) hlo),ya h1];rw[show lo / 2^(64-0)=0 from xV hlo,Nat.or_zero,yo]
theorem qvx(hi lo y:Nat)(h0:0<hi)(h1:hi<y)(hlo:lo<18446744073709551616)(hy:y<18446744073709551616)(w:World):
  xa 293 #[.int .u64 hi,.int .u64 lo,.int .u64 y] w (.tuple #[.int .u64 (d64q hi lo y:Nat),.int .u64 (d64r hi lo y:Nat)]):=by
 have hB:Below w.heap.size w w:=Below.refl _ _
 have g1:((y:Int)==0)=false:=by simp;omega
 have g2:¬ (y:Int)<=hi:=by omega
 have g3:((hi:Int)==0)=false:=by simp;omega
 obtain⟨s,hs,hs',hY1,hY2⟩:=qqe y Q4P hy
 have hp:0<2^s:=yz Q4T
 have hhi:hi*2^s<18446744073709551616:=xM (zg h1 hp) hY2
 have hW:=Knuth.words hi lo s hs
 have hbk:=Knuth.back (hi*18446744073709551616+lo) y s
 have hN:hi*18446744073709551616+lo<y*18446744073709551616:=by omega
 have hN2:(hi*18446744073709551616+lo)*2^s<y*2^s*18446744073709551616:=by
  rw[Nat.mul_right_comm];exact zg hN hp
 have f1:IntKind.u64.wrap ((y:Int)*2^s)=((y*2^s:Nat):Int):=by rw[qgg,ya hY2]
 have f4:=qvw hi lo s hs hhi hlo
 have f5:=qgg lo s
 have hl64:lo*2^s%18446744073709551616<18446744073709551616:=xB _ Q4T
 have hlo2:lo / 2^(64-s)<=lo:=yL _ _
 rw[hW] at hbk hN2
 generalize hYY:y*2^s=Y at *
 generalize hu:hi*2^s+lo / 2^(64-s)=u at *
 generalize hl:lo*2^s%18446744073709551616=l at *
 have huY:u<Y:=by omega
 clear hW hN hN2 hYY hu hl hhi hp hlo2
 have f2:(Y:Int) / 4294967296=((Y / 4294967296:Nat):Int):=rfl
 have f3:=qsx Y hY2
 have f6:(l:Int) / 4294967296=((l / 4294967296:Nat):Int):=rfl
 have f7:=qsx l hl64
 have eY:=xK Y 4294967296
 have el:=xK l 4294967296
 have y0h:=xB Y (show 0<4294967296 by decide)
 have d0h:=xB l (show 0<4294967296 by decide)
 have y1a:2147483648<=Y / 4294967296:=by omega
 have y1b:Y / 4294967296<4294967296:=by omega
 have d1h:l / 4294967296<4294967296:=by omega
 generalize Y / 4294967296=y1 at *
 generalize Y%4294967296=y0 at *
 generalize l / 4294967296=d1 at *
 generalize l%4294967296=d0 at *
 have HE:=Lib.hid (show Y=y1*4294967296+y0/\l=d1*4294967296+d0 from⟨by omega,by omega⟩)
 clear eY el
 have G:=Knuth.first (u:=u) (d:=d1) y1a y1b y0h d1h (by have:=HE.out.1;show u<y1*4294967296+y0;omega)
 have hq1:=G.le
 have hq2:=G.sum
 have hr1:=xB u (show 0<y1 by omega)
 have f8:(u:Int).tdiv y1=((u / y1:Nat):Int):=rfl
 have f8':(u:Int) / y1=((u / y1:Nat):Int):=rfl
 generalize u / y1=q at *
 generalize u%y1=r at *
 have hqy:((q*y1:Nat):Int)=(q:Int)*(y1:Int):=x5 _ _
 have f9:IntKind.u64.wrap ((q:Int)*(y1:Int))=((q*y1:Nat):Int):=by rw[xm,<-hqy];omega
 have f10:IntKind.u64.wrap ((u:Int)-((q*y1:Nat):Int))=(r:Int):=by rw[xm];omega
 have f11:IntKind.u64.wrap (q:Int)=(q:Int):=by rw[xm];simp only[Knuth.h] at hq1;omega
 generalize hqq:q*y1=qy at *
 clear hqy hqq hq2
 go_enter func293,Tryz.ntmps293
 go_wp2_with fail
 refine(q1y y hy _).mono ?_
 rintro e w' ⟨rfl,rfl⟩
 rw[hs']
 clear hs'
 go_wp2_with fail
 clear f1 f2 f3 f4 f5 f6 f7 f8 f8' f9 f10 f11 g1 g2 g3
 have hr2:r<4294967296:=by omega
 have HG:=Lib.hid G
 clear G hq1 hr1
 go_loopw [15,16] (λa b wr=>wr=w/\∃q r:Nat,a=.int .u64 q/\b=.int .u64 r/\r<4294967296/\Hid (Knuth.Guess y1 y0 u d1 q r)) (λa b _=>(intOf a).toNat)
 case atStart=>exact⟨rfl,_,_,rfl,rfl,hr2,HG⟩
 case round=>
  clear HG hr2
  obtain⟨e0,q,r,rfl,rfl,hr2,HG⟩:=hrel
  have e0':=e0.symm
  clear e0
  subst e0'
  have hu':u<y1*Knuth.h+y0:=by have:=HE.out.1;show u<y1*4294967296+y0;omega
  have hq1:q<=4294967297:=HG.out.le
  obtain⟨m,hm⟩:∃m:Nat,q*y0=m:=⟨_,rfl⟩
  have hm1:m<=4294967297*4294967295:=by rw[<-hm];exact x9 hq1 Q4P
  have e1:IntKind.u64.wrap ((q:Int)*(y0:Int))=(m:Int):=by
   rw[<-x5,hm,xm];omega
  obtain⟨k0,hk0⟩:∃k:Nat,4294967296*r=k:=⟨_,rfl⟩
  have e2:IntKind.u64.wrap (4294967296*(r:Int))=(k0:Int):=by rw[xm];omega
  obtain⟨k,hk⟩:∃k:Nat,k0+d1=k:=⟨_,rfl⟩
  have e3:IntKind.u64.wrap ((k0:Int)+(d1:Int))=(k:Int):=by rw[xm];omega
  have hkk:Knuth.h*r+d1=k:=by simp only[Knuth.h];omega
  have hdn:Knuth.h<=q\/k<m->0<q/\Knuth.Guess y1 y0 u d1 (q-1) (r+y1):=λht=>Knuth.down d1h hu' HG.out (by rw[hkk,hm];exact ht)
  have hst:q<Knuth.h->m<=k->q=(u*Knuth.h+d1) / (y1*Knuth.h+y0):=λh1 h2=>Knuth.stop d1h hu' HG.out h1 (by rw[hkk,hm];exact h2)
  obtain⟨r',hr'⟩:∃r',r+y1=r':=⟨_,rfl⟩
  have e5:IntKind.u64.wrap ((r:Int)+(y1:Int))=(r':Int):=by rw[xm];omega
  have hr3:r'<18446744073709551616:=by omega
  rw[hr'] at hdn
  have HH:=Lib.hid hdn
  have HS:=Lib.hid hst
  have hq64:(q:Int)<18446744073709551616:=by omega
  clear hm hk0 hk hkk hdn hst hm1 hr'
  by_cases hA:4294967296<=q
  .have HT:Hid (Knuth.h<=q\/k<m):=.inl hA;have t1:decide ((q:Int)>=4294967296)=true:=xg Q4P;have t1':(4294967296:Int)<=(q:Int):=by omega
   clear hA;exact Q0Z
  .by_cases hB:k<m
   .have HT:Hid (Knuth.h<=q\/k<m):=.inr hB;have t1:¬ (4294967296:Int)<=(q:Int):=by omega
    have t2:(k:Int)<(m:Int):=by omega
    clear hA hB;exact Q0Z
   .have HF:=Lib.hid (HS.out Q5I Q4P);have t1:¬ (4294967296:Int)<=(q:Int):=by omega
    have t2:¬ (k:Int)<(m:Int):=by omega
    clear hA hB hq1;have hdq1:(u*4294967296+d1) / Y=q:=by rw[HE.out.1];exact HF.out.symm
    have hq1h:q<4294967296:=by rw[<-hdq1,HE.out.1];exact Knuth.digit_lt (y1:=y1) (y0:=y0) d1h hu'
    have HD1:=Lib.hid hdq1;have aE:=xK (u*4294967296+d1) Y;have aQ:(u*4294967296+d1) / Y=q:=hdq1;rw[aQ] at aE;have aL:=xB (u*4294967296+d1) (show 0<Y by omega);obtain⟨v,vE⟩:∃z,(u*4294967296+d1)%Y=z:=⟨_,rfl⟩;rw[vE] at aE aL;obtain⟨aC,aCE⟩:∃c,q*Y%18446744073709551616=c:=⟨_,rfl⟩;have a3:IntKind.u64.wrap ((q:Int)*(Y:Int))=(aC:Int):=by rw[<-x5,xm];omega
    rw[xq Y] at aE;obtain⟨aA,aAE⟩:∃c,u*4294967296%18446744073709551616=c:=⟨_,rfl⟩;have a1:IntKind.u64.wrap ((u:Int)*4294967296)=(aA:Int):=by rw[xm];omega
    obtain⟨aB,aBE⟩:∃c,(aA+d1)%18446744073709551616=c:=⟨_,rfl⟩;have a2:IntKind.u64.wrap ((aA:Int)+(d1:Int))=(aB:Int):=by rw[xm];omega
    have a4:IntKind.u64.wrap ((aB:Int)-(aC:Int))=(v:Int):=by
     rw[xm];generalize q*Y=P at *;omega
    have Hv:=Lib.hid vE;clear aE aCE aAE aBE vE;have hvY:v<Y:=aL;clear aQ hdq1 aL HF;obtain⟨qa,rfl⟩:∃c,c=q:=⟨_,rfl⟩;exact Q00
open Go Go.RowKit Sx
theorem qap(neg over:Bool)(v:Nat):qar (.agg ⟨wiL neg over v⟩)=true:=qaf neg over v
theorem cMade(neg:Bool)(v:Nat)(h:Hp)(hv:v<Top):qae prog 189 [.bool neg,.agg ⟨limL 16 (dg v)⟩] h (.agg ⟨wiL (neg&&decide (v≠0)) false v⟩) [] []:=
 qaj (by simp[qad];rfl) (qap _ _ _) (call189 _) λw=>by
  have:=qo8 neg v hv w;rw[q84] at this;exact this
theorem cOf(n:Int)(h:Hp)(h0 : -9223372036854775808<=n)(h1:n<9223372036854775808):qae prog 111 [xc n] h (.agg ⟨wiL (decide (n<0)) false n.natAbs⟩) [] []:=
 qaj rfl (qap _ _ _) (call111 _) λw=>by
  have:=qzp n h0 h1 w;unfold zi at this;rw[q84] at this;exact this
variable{n:Nat}
theorem qqf{o:Bool}{m p:Nat}{f:Nat->Nat}(hp:p+m<=n):Reads ⟨o,n,[(0,n,.agg ⟨limL n f⟩)]⟩ p true m (.agg ⟨limL m λk=>f (p+k)⟩):=by
 refine⟨hp,_,rfl,qj4 _ _,λk hk=>?_⟩;refine Q1b ?_;simp only[cellIn];rw[qd6 hk,show p+k-0=p+k from rfl,qd6 Q4P]
theorem qqg{ps:Pz}{v:Value}:Writes ⟨true,n,ps⟩ 0 n v ⟨true,n,[(0,n,v)]⟩:=by
 refine⟨rfl,by show 0+n<=n;omega,rfl,λk hk=>?_⟩;have hk:k<n:=hk;show qa1 _ _=_;rw[qan,if_pos Q4P,if_pos Q4P]
def mT(v u i:Nat):Nat:=v%Bs^i*u
def mX(v u i j:Nat):Nat:=mT v u i+Bs^i*dg v i*(u%Bs^j)
def mC(v u i j:Nat):Nat:=mX v u i j / Bs^(i+j)-mT v u i / Bs^(i+j)
def mA(v u i j k:Nat):Nat:=if k<i+j then dg (mX v u i j) k else dg (mT v u i) k
theorem qsy(v u i:Nat):mX v u i 0=mT v u i:=by simp[mX,Nat.mod_one]
theorem qsz(v u i:Nat):mC v u i 0=0:=by simp[mC,qsy]
theorem qzt(v u i k:Nat):mA v u i 0 k=dg (mT v u i) k:=by unfold mA;rw[qsy];split<;>rfl
theorem qzu(v u:Nat):mT v u 0=0:=by simp[mT,Nat.mod_one]
theorem qs0(v u i j:Nat):mX v u i (j+1)=mX v u i j+Bs^(i+j)*(dg v i*dg u j):=by
 unfold mX;rw[qg1,Nat.mul_add,<-xX,xG];congr 1;simp only[xR,Nat.mul_left_comm]
theorem ja4(v u i j:Nat):mT v u i<=mX v u i j:=Nat.le_add_right _ _
theorem qyb(v u i j:Nat):mX v u i j / Bs^(i+j)=mT v u i / Bs^(i+j)+mC v u i j:=by
 unfold mC;have:=Nat.div_le_div_right (c:=Bs^(i+j)) (ja4 v u i j);omega
theorem qs1(v u i j:Nat):mX v u i (j+1) / Bs^(i+j)=mT v u i / Bs^(i+j)+mC v u i j+dg v i*dg u j:=by
 rw[qs0,Nat.add_mul_div_left _ _ (qcb _),qyb]
theorem qs2(v u i j:Nat):mC v u i (j+1)=(dg v i*dg u j+dg (mT v u i) (i+j)+mC v u i j) / 18446744073709551616:=by
 have h:=qs1 v u i j;have hs:=qdq (mT v u i) (i+j);have h2:mX v u i (j+1) / Bs^(i+(j+1))=mX v u i (j+1) / Bs^(i+j) / Bs:=by
  rw[yI,show i+(j+1)=(i+j)+1 from rfl,yJ]
 generalize hc:mC v u i j=c at *;show mX v u i (j+1) / Bs^(i+(j+1))-mT v u i / Bs^(i+(j+1))=_;rw[h2,h,hs,show i+(j+1)=(i+j)+1 from rfl];rw[show mT v u i / Bs^(i+j+1)*Bs+dg (mT v u i) (i+j)+c+dg v i*dg u j=Bs*(mT v u i / Bs^(i+j+1))+(dg v i*dg u j+dg (mT v u i) (i+j)+c) by rw[xq];omega];rw[yT qe1,Nat.add_sub_cancel_left]
theorem q1z(v u i j:Nat):dg (mX v u i (j+1)) (i+j)=(dg v i*dg u j+dg (mT v u i) (i+j)+mC v u i j)%18446744073709551616:=by
 have h:=qs1 v u i j;have hs:=qdq (mT v u i) (i+j);show mX v u i (j+1) / Bs^(i+j)%Bs=_;rw[h,hs];rw[show mT v u i / Bs^(i+j+1)*Bs+dg (mT v u i) (i+j)+mC v u i j+dg v i*dg u j=Bs*(mT v u i / Bs^(i+j+1))+(dg v i*dg u j+dg (mT v u i) (i+j)+mC v u i j) by rw[xq];omega];rw[y3]
theorem qpb{a b t c:Nat}(ha:a<18446744073709551616)(hb:b<18446744073709551616)(ht:t<18446744073709551616)(hc:c<18446744073709551616):(a*b+t+c) / 18446744073709551616<18446744073709551616:=by
 have:a*b<=18446744073709551615*18446744073709551615:=x9 Q4P Q4P;omega
theorem q73(v u i:Nat):∀j,mC v u i j<18446744073709551616
 | 0=>by rw[qsz];decide
 | j+1=>by rw[qs2];exact qpb (q37 _ _) (q37 _ _) (q37 _ _) (q73 v u i j)
theorem q10(x y p k:Nat)(h:k<p):dg (x+Bs^p*y) k=dg x k:=by
 rw[<-qx4 (x+Bs^p*y) p k h,Nat.add_mul_mod_self_left,qx4 x p k h]
theorem qzv(v u i j k:Nat)(h:k≠i+j):mA v u i (j+1) k=mA v u i j k:=by
 unfold mA;by_cases hk:k<i+j
 .rw[if_pos hk,if_pos Q4P,qs0,q10 _ _ _ _ hk]
 .rw[if_neg hk,if_neg Q4P]
theorem ja5(v u i j:Nat):mA v u i (j+1) (i+j)=(dg v i*dg u j+dg (mT v u i) (i+j)+mC v u i j)%18446744073709551616:=by
 unfold mA;rw[if_pos Q4P,q1z]
theorem q11(v u i j:Nat):mA v u i j (i+j)=dg (mT v u i) (i+j):=by unfold mA;rw[if_neg Q4P]
theorem q12(v u i n:Nat)(hu:u<Bs^n):mX v u i n=mT v u (i+1):=by
 unfold mX mT;rw[ya hu,qg1,x6]
theorem q74(v u i n:Nat)(hu:u<Bs^n):mT v u i<Bs^(i+n):=by
 unfold mT;rw[xG];have h1:=xB v (qcb i);exact Nat.mul_lt_mul'' h1 hu
theorem qs3(v u i n k:Nat)(hu:u<Bs^n):dg (mT v u (i+1)) k=if k<i+n then mA v u i n k else if k=i+n then mC v u i n else dg (mT v u i) k:=by
 have hx:=q12 v u i n hu;have h0:mT v u i / Bs^(i+n)=0:=xV (q74 v u i n hu);by_cases h1:k<i+n
 .rw[if_pos h1];unfold mA;rw[if_pos h1,hx]
 .rw[if_neg h1];by_cases h2:k=i+n
  .rw[if_pos h2];subst h2;have h3:=qyb v u i n;rw[h0,xl,hx] at h3;show mT v u (i+1) / Bs^(i+n)%Bs=_;rw[h3,ya (q73 v u i n)]
  .rw[if_neg h2];have h4:i+n<=k:=by omega
   have h5:Bs^(i+n)<=Bs^k:=ye qe1 h4;have h6:Bs^(i+1+n)<=Bs^k:=ye qe1 Q4P;rw[qi1 _ _ (xh (q74 v u i n hu) h5),qi1 _ _ (xh (q74 v u (i+1) n hu) h6)]
theorem qzw(v u i n k:Nat)(h:i+n<=k):mA v u i n k=dg (mT v u i) k:=by unfold mA;rw[if_neg Q4P]
theorem q13(v u m:Nat)(hv:v<Bs^m):mT v u m=v*u:=by unfold mT;rw[ya hv]
theorem qzx(ab t c:Nat):(((((ab%18446744073709551616:Nat):Int)+(t:Int)+0)%18446744073709551616)+(c:Int)+0)%18446744073709551616=(((ab+t+c)%18446744073709551616:Nat):Int):=by omega
theorem qvy(ab t c:Nat)(h:(ab+t+c) / 18446744073709551616<18446744073709551616):IntKind.u64.wrap (IntKind.u64.wrap (((ab / 18446744073709551616:Nat):Int)+(((ab%18446744073709551616:Nat):Int)+(t:Int)+0) / 18446744073709551616)+((((ab%18446744073709551616:Nat):Int)+(t:Int)+0)%18446744073709551616+(c:Int)+0) / 18446744073709551616)=(((ab+t+c) / 18446744073709551616:Nat):Int):=by
 rw[xm,xm];omega
theorem qzy{a b:Int}(h:a=b):Value.int .u64 a=.int .u64 b:=by rw[h]
theorem qj6{a b:Int}(h:a=b):xc a=xc b:=by rw[h]
theorem ja6(n1 n2:Bool)(v u:Nat)(hv:v<Bs^16)(hu:u<Bs^16)(hvu:v*u<Top)(w:World):
  xa 146 #[.agg ⟨wiL n1 false v⟩,.agg ⟨wiL n2 false u⟩] w (.agg ⟨wiL ((n1 != n2)&&decide (v*u≠0)) false (v*u)⟩):=by
 have hn1:=nd_le v
 have hn2:=nd_le u
 have hvm:v<Bs^nd v:=qhw v 16 hv
 have hun:u<Bs^nd u:=qhw u 16 hu
 refine qah (G:=tys) w tysOK mixed func146 Q4R (by simp[qaf]) (by exact qaf _ _ _) ?_
 repeat (refine Ba ?_;first|refine Q2K ?_|refine Bc (q1s _ _ _ _ (qdk Q4R)) ?_)
 refine Ba ?_
 refine N.loop (α:=Nat) (λi=>i<=nd v) (λi=>nd v-i) (λi=>[(29,xc (i:Int))]) (λi=>[(3,⟨true,32,[(0,32,.agg ⟨limL 32 (dg (mT v u i))⟩)]⟩)]) 0 (xo _) ?_ ?_
 .repeat (refine Ba ?_;first|exact Bd|refine Q2P ?_|refine Q3q ?_|refine Bb (ChunkLe.of (by rw[qzu,qfw (g:=λ_=>0) (λj _=>qhr j)];rfl)) ?_)
 .intro i hi;by_cases hlt:i<nd v
  .refine Ba ?_;refine Bf (by simpa using hlt) ?_;refine Ba ?_;refine N.loop (α:=Nat) (λj=>j<=nd u) (λj=>nd u-j) (λj=>[(33,xc (j:Int)),(9,.int .u64 ((mC v u i j:Nat):Int))]) (λj=>[(3,⟨true,32,[(0,32,.agg ⟨limL 32 (mA v u i j)⟩)]⟩)]) 0 (xo _) ?_ ?_
   .repeat (refine Ba ?_;first|exact Bd|refine Q2P ?_|refine Q3q ?_|refine Bb (ChunkLe.of (by rw[qfw (f:=mA v u i 0) (g:=dg (mT v u i)) (λk _=>qzt v u i k)])) ?_|refine Bb (by rw[qsz];rfl) ?_)
   .intro j hj;have da:=q37 v i;have db:=q37 u j;have dt:=q37 (mT v u i) (i+j);have dc:=q73 v u i j;by_cases hlt2:j<nd u
    .have hab:dg v i*dg u j<=18446744073709551615*18446744073709551615:=x9 Q4P Q4P;refine Ba ?_;refine Bf (by simpa using hlt2) ?_;refine Ba ?_;refine N.alt ?_;refine Ba ?_;refine Bi i 1 rfl Q4P ?_;refine Ba ?_;refine Bk _ (qj5 (p:=i) Q4P rfl) ?_;refine Ba ?_;refine Bi j 1 rfl Q4P ?_;refine Ba ?_;refine Bk _ (qj5 (p:=j) Q4P rfl) ?_;refine Ba ?_;refine Bc (q1t (dg v i) (dg u j) _ da db) ?_;refine Ba ?_;refine Bb ⟨by kernel_rfl,by kernel_rfl⟩ ?_;refine Q2n ?_;refine Bk _ (qmb (p:=i+j) Q4P rfl) ?_;rw[q11];refine Q2u ?_;refine Q2u ?_;refine Q2n ?_;refine N.store ⟨true,32,[(0,32,.agg ⟨limL 32 (mA v u i (j+1))⟩)]⟩ (qgf (p:=i+j) Q4P rfl (by rw[ja5];exact qzx _ _ _) λk _ hk=>qzv v u i j k hk) ?_;refine Ba ?_;refine N.next (j+1) ⟨by omega,by omega⟩ ?_
     repeat (refine Ba ?_;first|exact Bd|refine Q2P ?_|refine Q3q ?_|refine Bb (qj6 Q5S) ?_|refine Bb (qzy (by rw[qs2];exact qvy _ _ _ (qpb da db dt dc))) ?_)
    .refine Ba ?_;refine Be (by simpa using hlt2) ?_;obtain rfl:j=nd u:=by omega
     refine Ba ?_;refine Bi (i+nd u) 1 (by rw[IntWalk.i64_in _ Q4P];omega) Q4P ?_;refine Ba ?_;refine N.store ⟨true,32,[(0,32,.agg ⟨limL 32 (dg (mT v u (i+1)))⟩)]⟩ (qgf (p:=i+nd u) Q4P rfl (by rw[qs3 v u i (nd u) _ hun,if_neg Q4P,if_pos rfl]) (λk _ hk=>by
      rw[qs3 v u i (nd u) k hun];by_cases h:k<i+nd u
      .rw[if_pos h]
      .rw[if_neg h,if_neg hk,qzw _ _ _ _ _ Q4P])) ?_
     exact Q2o
  .have hm:i=nd v:=by omega
   subst hm;refine Ba ?_;refine Be Q50 ?_;refine Ba ?_;rw[q13 v u _ hvm];refine N.mk ⟨0,16,0,rfl,rfl,?_⟩;refine Ba ?_;refine N.mk ⟨0,16,0,⟨rfl,by decide⟩,rfl,?_⟩;refine Ba ?_;refine N.mk ⟨16,.agg ⟨limL 16 (dg (v*u))⟩,⟨true,16,[(0,16,.agg ⟨limL 16 (dg (v*u))⟩)]⟩,rfl,?_,qaa _ _,qqg,?_⟩
   .have:=qqf (o:=true) (n:=32) (m:=16) (p:=0) (f:=dg (v*u)) Q4P;simp only[xl] at this;exact this
   refine Ba ?_;refine Bb ⟨by kernel_rfl,by kernel_rfl⟩ ?_;refine Ba ?_;refine N.mk ⟨16,32,1,rfl,⟨rfl,by decide⟩,?_⟩;refine Ba ?_;refine N.loop (α:=Nat) (λj=>j<=16) (λj=>16-j) (λj=>[(86,xc (j:Int))]) (λ_=>[]) 0 Q4P ?_ ?_
   .repeat (refine Ba ?_;first|exact Bd|refine Q2P ?_|with_reducible refine Bb (ChunkLe.refl _) ?_ )
   .intro j hj;by_cases hlt3:j<16
    .refine Ba ?_;refine Bf Q5q ?_;refine Ba ?_;refine Bi j 1 rfl hlt3 ?_;refine Ba ?_;refine Bk _ (qmb (p:=16+j) Q4P rfl) ?_;refine Ba ?_;have hz:dg (v*u) (16+j)=0:=qi1 _ _ (xh (xM hvu qb6) (ye qe1 Q4P));rw[hz];refine Be rfl ?_;refine Ba ?_;refine N.next (j+1) ⟨by omega,by omega⟩ ?_;exact Q0R
    .refine Ba ?_;refine Be Q5q ?_;repeat (refine Ba ?_;first|refine Q2K ?_|refine Bc (cMade _ _ _ hvu) ?_)
     rfl
open Go Go.RowKit Sx
abbrev wz(z:Int):Value:=.agg ⟨wiL (decide (z<0)) false z.natAbs⟩
theorem qac(z:Int):qai (wz z)=true:=qaf _ _ _
theorem qag(z:Int):qar (wz z)=true:=qaf _ _ _
theorem qvz(a b:Int):((decide (a<0) != decide (b<0))&&decide (a.natAbs*b.natAbs≠0))=decide (a*b<0):=by
 by_cases h0:a=0
 .subst h0;simp
 by_cases h1:b=0
 .subst h1;simp
 have hne:a.natAbs*b.natAbs≠0:=Nat.mul_ne_zero Q4P Q4P;rw[xg hne,Bool.and_true];rcases Int.lt_or_gt_of_ne h0 with ha|ha<;>rcases Int.lt_or_gt_of_ne h1 with hb|hb
 .have:=Int.mul_pos_of_neg_of_neg ha hb;rw[xg ha,xg hb,xj Q4P];rfl
 .have:=Int.mul_neg_of_neg_of_pos ha hb;rw[xg ha,xj (by omega:¬ b<0),xg this];rfl
 .have:=Int.mul_neg_of_pos_of_neg ha hb;rw[xj (by omega:¬ a<0),xg hb,xg this];rfl
 .have:=Int.mul_pos ha hb;rw[xj (by omega:¬ a<0),xj (by omega:¬ b<0),xj Q4P];rfl
theorem cMulz(a b:Int)(h:Hp)(ha:a.natAbs<Bs^16)(hb:b.natAbs<Bs^16)(hab:(a*b).natAbs<Top):qae prog 146 [wz a,wz b] h (wz (a*b)) [] []:=
 qaj Q5K (qag _) (call146 _) λw=>by
  have:=ja6 (decide (a<0)) (decide (b<0)) a.natAbs b.natAbs ha hb (by rwa[<-yu]) w;rw[qvz,<-yu] at this;exact this
theorem cOfz(n:Int)(h:Hp)(h0 : -9223372036854775808<=n)(h1:n<9223372036854775808):qae prog 111 [xc n] h (wz n) [] []:=cOf n h h0 h1
theorem qzz(a b:Nat)(h:Hp)(ha:a<Bs^16)(hb0:0<b)(hb:b<18446744073709551616):qae prog 269 [.agg ⟨limL 16 (dg a)⟩,.agg ⟨limL 16 (dg b)⟩] h (.tuple #[.agg ⟨limL 16 (dg (a / b))⟩,.agg ⟨limL 16 (dg (a%b))⟩]) [] []:=
 qaj (by simp[qad]) (by simp[qar,qad]) (call269 _) λw=>qi2 a b ha hb0 hb (λi w hi=>by
  have hs:=qvq a b i hb0;have hr:rm a b (i+1)<b:=xB _ hb0;have hd:=q37 a i;have e1:rm a b (i+1)*18446744073709551616+dg a i=a / Bs^(i+1)%b*18446744073709551616+dg a i:=rfl;rcases y2 (rm a b (i+1)) with h0|h0
  .have:=qpa (dg a i) b hd hb0 hb w;rw[h0,Nat.zero_mul,xl] at e1;rw[<-e1] at hs;rw[hs.1,hs.2] at this;rw[h0];exact this
  .have:=qvx (rm a b (i+1)) (dg a i) b h0 hr hd hb w;unfold d64q d64r at this;rw[e1,hs.1,hs.2] at this;exact this) w
theorem qs4{h:Hp}{i v:Nat}{o:Bool}(hi:h[i]?=some (some ⟨o,16,[(0,16,.agg ⟨limL 16 (dg v)⟩)]⟩)):Has h i 0 v:=
 ⟨_,hi,nlr _,λj hj=>by
  refine Q1b ?_;simp only[cellIn];rw[show 0+j-0=j by omega];exact qd6 hj⟩
theorem qv0:limL 16 (dg 1)=[.int .u64 1,.int .u64 0,.int .u64 0,.int .u64 0,.int .u64 0,.int .u64 0,.int .u64 0,.int .u64 0,.int .u64 0,.int .u64 0,.int .u64 0,.int .u64 0,.int .u64 0,.int .u64 0,.int .u64 0,.int .u64 0]:=by
 rw[qfw (g:=λj=>if j=0 then 1 else 0) (λj _=>qcv 1 Q4T j)];rfl
theorem qz0{h:Hp}{i:Nat}{o:Bool}(hi:h[i]?=some (some ⟨o,16,[(0,16,.agg ⟨[.int .u64 1,.int .u64 0,.int .u64 0,.int .u64 0,.int .u64 0,.int .u64 0,.int .u64 0,.int .u64 0,.int .u64 0,.int .u64 0,.int .u64 0,.int .u64 0,.int .u64 0,.int .u64 0,.int .u64 0,.int .u64 0]⟩)]⟩)):Has h i 0 1:=by
 rw[<-qv0] at hi;exact qs4 hi
theorem jcn(i f v j g u:Nat)(h:Hp)(h1:Has h i f v)(h2:Has h j g u):qae prog 193 [.pointer (some ⟨i,f,some 0⟩),.pointer (some ⟨j,g,some 0⟩)] h (.tuple #[.agg ⟨limL 16 (dg (v+u))⟩,.int .u64 (cry v u 16)]) [] [i,j]:=
 qfx [i,j] (by simp[qar,qad];rfl) (call193) λρ w hc=>qsp (ρ i).1 ((ρ i).2+f) v (ρ j).1 ((ρ j).2+g) u w (h1.digs Q50 hc) (h2.digs Q50 hc)
theorem ja7(i f v:Nat)(h:Hp)(h1:Has h i f v):qae prog 221 [.pointer (some ⟨i,f,some 0⟩)] h (xc (bl v)) [] [i]:=
 qfx [i] rfl (call221) λρ w hc=>(qg2 (ρ i).1 ((ρ i).2+f) v w (h1.digs Q50 hc)).mono Q5s
theorem qqh:prog.eqGuardType prog.depth 137=false:=by kernel_rfl
theorem qj7(op:BinOp)(x y:Operand)(u:Nat)(hu:u<Bs^16)(neg:Bool)(hop:op=if neg then .neq else .eql):BinIs prog op 137 x y (.agg ⟨limL 16 (dg u)⟩) (.agg #[.int .u64 0,.int .u64 0,.int .u64 0,.int .u64 0,.int .u64 0,.int .u64 0,.int .u64 0,.int .u64 0,.int .u64 0,.int .u64 0,.int .u64 0,.int .u64 0,.int .u64 0,.int .u64 0,.int .u64 0,.int .u64 0]) (.bool (if neg then !decide (u=0) else decide (u=0))):=by
 have he:=qqd u hu;refine⟨qad _ _,rfl,by cases neg<;>rfl,λw=>?_⟩;have hg:∀op,(eqGuard op 137 x y (.agg ⟨limL 16 (dg u)⟩) (.agg #[.int .u64 0,.int .u64 0,.int .u64 0,.int .u64 0,.int .u64 0,.int .u64 0,.int .u64 0,.int .u64 0,.int .u64 0,.int .u64 0,.int .u64 0,.int .u64 0,.int .u64 0,.int .u64 0,.int .u64 0,.int .u64 0])).run prog w=.ok () w:=λop=>by
  cases op<;>simp[eqGuard,Sem.run_bind,run_program,qqh]
 subst hop;cases neg
 .simp only[Sem.run_bind,hg,Result.andThen_ok,if_false,xC];show(do pure (.bool (<-Op.equal 137 (.agg ⟨limL 16 (dg u)⟩) (.agg #[.int .u64 0,.int .u64 0,.int .u64 0,.int .u64 0,.int .u64 0,.int .u64 0,.int .u64 0,.int .u64 0,.int .u64 0,.int .u64 0,.int .u64 0,.int .u64 0,.int .u64 0,.int .u64 0,.int .u64 0,.int .u64 0]))):Sem Value).run prog w=_;exact Q0U
 .simp only[Sem.run_bind,hg,Result.andThen_ok,if_true];show(do pure (.bool (!(<-Op.equal 137 (.agg ⟨limL 16 (dg u)⟩) (.agg #[.int .u64 0,.int .u64 0,.int .u64 0,.int .u64 0,.int .u64 0,.int .u64 0,.int .u64 0,.int .u64 0,.int .u64 0,.int .u64 0,.int .u64 0,.int .u64 0,.int .u64 0,.int .u64 0,.int .u64 0,.int .u64 0])))):Sem Value).run prog w=_;exact Q0U
theorem q98(h:n<18446744073709551616):n<Bs^16:=xh h (yU Q4T Bs)
theorem ja8(z:Int)(hz:z.natAbs<Top)(w:World):xa 153 #[wz z] w (wz (-z)):=by
 refine qah (G:=tys) w tysOK mixed func153 Q4R Q4S Q4Q ?_;repeat' (refine Ba ?_;first|refine Q2K ?_|with_reducible refine Bc (cMade _ _ _ hz) ?_|fail)
 all_goals
  simp only[wz,Value.agg.injEq,Array.mk.injEq,Int.natAbs_neg]
  congr 1
  by_cases h:z<0
  .rw[xg h,xj (by omega:¬ -z<0)];rfl
  .by_cases h0:z=0
   .subst h0;rfl
   .rw[xj h,xg (by omega : -z<0),xg (by omega:z.natAbs≠0)];rfl
theorem jc0(z:Int)(h:Hp)(hz:z.natAbs<Top):qae prog 153 [wz z] h (wz (-z)) [] []:=
 qaj Q5K (qag _) (call153 _) (ja8 z hz)
open Go Go.RowKit Sx
theorem qz1(n o:Bool)(v:Nat):(wiL n o v).length=18:=by rfl
theorem wi_re{ix:Lz}{w:Bool}{m:Nat}(n o:Bool)(v:Nat):((⟨false,18,[(0,18,.agg ⟨wiL n o v⟩)]⟩:Chunk).own=true->(⟨w,18,[(0,18,.agg ⟨wiL n o v⟩)]⟩:Chunk).own=true/\m<=(⟨w,18,[(0,18,.agg ⟨wiL n o v⟩)]⟩:Chunk).n)/\(⟨false,18,[(0,18,.agg ⟨wiL n o v⟩)]⟩:Chunk).n<=(⟨w,18,[(0,18,.agg ⟨wiL n o v⟩)]⟩:Chunk).n/\qb4 ix ⟨w,18,[(0,18,.agg ⟨wiL n o v⟩)]⟩ ⟨false,18,[(0,18,.agg ⟨wiL n o v⟩)]⟩:=
 q1m (qbq (qz1 _ _ _) (qaf _ _ _))
theorem ja9(x y b:Nat)(hb:b<=1)(w:World):(callFunc 232 #[.int .u64 x,.int .u64 y,.int .u64 b]).run prog w =
  .ok (.value (.tuple #[.int .u64 (((x+18446744073709551616-y-b)%18446744073709551616:Nat):Int),.int .u64 ((if x<y+b then 1 else 0:Nat):Int)])) w:=by
 rw[run_callFunc_extern func232 Q4U Q4U Q4U (e:=Proofs.sub64Entry) Q4U,Proofs.run_sub64 x y b hb]
 rfl
theorem q14(x y b p q:Nat)(h:Hp)(hb:b<=1)(hp:(x+18446744073709551616-y-b)%18446744073709551616=p)(hq:(if x<y+b then 1 else 0)=q):qae prog 232 [.int .u64 x,.int .u64 y,.int .u64 b] h (.tuple #[.int .u64 p,.int .u64 q]) [] []:=by
 subst hp;subst hq;exact qon rfl rfl λw=>ja9 x y b hb w
def q5m(d i:Nat):Nat->Nat:=λj=>if j<i then dg d j else 0
theorem qqi(d:Nat):limL 16 (q5m d 0)=limL 16 (λ_=>0):=by rfl
theorem qs5(d:Nat):limL 16 (q5m d 16)=limL 16 (dg d):=by grind[qfw,q5m]
theorem jba(i j v u:Nat)(n1 o1 n2 o2 w1 w2:Bool)(h:Hp)(hi:h[i]?=some (some ⟨w1,18,[(0,18,.agg ⟨wiL n1 o1 v⟩)]⟩))(hj:h[j]?=some (some ⟨w2,18,[(0,18,.agg ⟨wiL n2 o2 u⟩)]⟩))(huv:u<=v):
  qae prog 195 [.pointer (some ⟨i,2,some 0⟩),.pointer (some ⟨j,2,some 0⟩)] h (.agg ⟨limL 16 (dg (v-u))⟩) [] [i,j]:=by
 obtain⟨d,rfl⟩:∃d,v=u+d:=⟨v-u,by omega⟩
 rw[Nat.add_sub_cancel_left]
 refine qau (G:=tys) [⟨i,_,⟨false,18,[(0,18,.agg ⟨wiL n1 o1 (u+d)⟩)]⟩,⟨false,0,[]⟩⟩,⟨j,_,⟨false,18,[(0,18,.agg ⟨wiL n2 o2 u⟩)]⟩,⟨false,0,[]⟩⟩] [] [.pointer (some ⟨0,2,some 0⟩),.pointer (some ⟨1,2,some 0⟩)] tysOK mixed func195 Q4R (call195) ⟨hi,hj,xb⟩ ⟨wi_re _ _ _,wi_re _ _ _,xb⟩ Q55 xb ⟨.ptr rfl,.ptr rfl,xb⟩ ?_
 repeat' (refine Ba ?_;first|refine Q2J ?_|fail)
 refine Ba ?_
 refine N.loop (α:=Nat) (λi=>i<=16) (λi=>16-i) (λi=>[(8,xc (i:Int)),(6,.int .u64 ((cry u d i:Nat):Int))]) (λi=>[(3,⟨true,16,[(0,16,.agg ⟨limL 16 (q5m d i)⟩)]⟩)]) 0 (xo _) ?_ ?_
 .repeat (refine Ba ?_;first|exact Bd|refine Q2P ?_|refine Q3q ?_|refine Bb (ChunkLe.of (by rw[qqi];rfl)) ?_|refine Bb (by rw[qo3];rfl) ?_)
 .intro i hi;by_cases hlt:i<16
  .have c1:dg u i+dg d i+cry u d i=dg (u+d) i+18446744073709551616*cry u d (i+1):=qj3 u d i;have c2:=qsm u d i;have c3:=qsm u d (i+1);have c4:=q37 u i;have c5:=q37 d i;have c6:=q37 (u+d) i;have hp:(dg (u+d) i+18446744073709551616-dg u i-cry u d i)%18446744073709551616=dg d i:=by omega
   have hq:(if dg (u+d) i<dg u i+cry u d i then 1 else 0)=cry u d (i+1):=by split<;>omega
   repeat' (refine Ba ?_;first|refine Q2J ?_|refine Q3t ?_|refine Bi i 1 rfl hlt ?_|refine Bk _ (qj5 (p:=i) hlt rfl) ?_|refine Bc (q14 _ _ _ _ _ _ c2 hp hq) ?_|refine N.store ⟨true,16,[(0,16,.agg ⟨limL 16 (q5m d (i+1))⟩)]⟩ (qgf (p:=i) hlt (by first|rfl|omega) (by unfold q5m;rw[if_pos Q4P]) λk _ hk=>by unfold q5m;by_cases h:k<i<;>simp[h]<;>omega) ?_|fail)
   exact Q2o
  .obtain rfl:i=16:=by omega
   refine Ba ?_;refine Be Q4T ?_;rw[qs5];repeat' (refine Ba ?_;first|refine Q2J ?_|exact Bd|refine Bb xb ?_|refine Bb (.plain (qad _ _)) ?_|fail)
theorem jbb(i f v j g u:Nat)(h:Hp)(h1:Has h i f v)(h2:Has h j g u)(hv:v<Bs^16)(hu:u<Bs^16):qae prog 194 [.pointer (some ⟨i,f,some 0⟩),.pointer (some ⟨j,g,some 0⟩)] h (xc (cm v u)) [] [i,j]:=
 qfx [i,j] rfl (call194) λρ w hc=>(qno (ρ i).1 ((ρ i).2+f) v (ρ j).1 ((ρ j).2+g) u w (h1.digs Q50 hc) (h2.digs Q50 hc) hv hu).mono (by rintro e w' ⟨he,hb,_⟩;exact⟨he,hb⟩)
theorem qs6(v u:Nat)(h:v+u<Bs^16):cry v u 16=0:=by
 grind[cry]
theorem qgv(v u:Nat)(hv:v<Top)(hu:u<Top)(hs:v+u<Top)(w:World):xa 152 #[.agg ⟨wiL false false v⟩,.agg ⟨wiL false false u⟩] w (.agg ⟨wiL (false&&decide (v+u≠0)) false (v+u)⟩):=Q2h
theorem qij(v u:Nat)(hv:v<Top)(hu:u<Top)(hs:u<=v)(w:World):xa 152 #[.agg ⟨wiL false false v⟩,.agg ⟨wiL true false u⟩] w (.agg ⟨wiL (false&&decide (v-u≠0)) false (v-u)⟩):=Q2i
theorem qik(v u:Nat)(hv:v<Top)(hu:u<Top)(hs:v<u)(w:World):xa 152 #[.agg ⟨wiL false false v⟩,.agg ⟨wiL true false u⟩] w (.agg ⟨wiL (true&&decide (u-v≠0)) false (u-v)⟩):=Q2j
theorem qhz(v u:Nat)(hv:v<Top)(hu:u<Top)(hs:v+u<Top)(w:World):xa 152 #[.agg ⟨wiL true false v⟩,.agg ⟨wiL true false u⟩] w (.agg ⟨wiL (true&&decide (v+u≠0)) false (v+u)⟩):=Q2h
theorem qj8(v u:Nat)(hv:v<Top)(hu:u<Top)(hs:u<=v)(w:World):xa 152 #[.agg ⟨wiL true false v⟩,.agg ⟨wiL false false u⟩] w (.agg ⟨wiL (true&&decide (v-u≠0)) false (v-u)⟩):=Q2i
theorem qj9(v u:Nat)(hv:v<Top)(hu:u<Top)(hs:v<u)(w:World):xa 152 #[.agg ⟨wiL true false v⟩,.agg ⟨wiL false false u⟩] w (.agg ⟨wiL (false&&decide (u-v≠0)) false (u-v)⟩):=Q2j
theorem qpc{z:Int}(h:z<0):wz z=.agg ⟨wiL true false z.natAbs⟩:=by simp_all
theorem qpd{z:Int}(h:0<=z):wz z=.agg ⟨wiL false false z.natAbs⟩:=by grind
theorem q54{b:Bool}{z:Int}(h1:n=z.natAbs)(h2:b=decide (z<0)):(Value.agg ⟨wiL b false n⟩)=wz z:=by simp_all
theorem jbc(a b:Int)(ha:a.natAbs<Top)(hb:b.natAbs<Top)(hab:(a+b).natAbs<Top)(w:World):xa 152 #[wz a,wz b] w (wz (a+b)):=by
 by_cases h1:a<0<;>by_cases h2:b<0
 .rw[qpc h1,qpc h2];have:=qhz a.natAbs b.natAbs ha hb Q4P w;rwa[q54 (b:=true&&decide (a.natAbs+b.natAbs≠0)) (n:=a.natAbs+b.natAbs) (z:=a+b) Q4P Q5D] at this
 .rw[qpc h1,qpd (by omega:0<=b)];by_cases h3:b.natAbs<=a.natAbs
  .have:=qj8 a.natAbs b.natAbs ha hb h3 w;rwa[q54 (b:=true&&decide (a.natAbs-b.natAbs≠0)) (n:=a.natAbs-b.natAbs) (z:=a+b) Q4P Q5D] at this
  .have:=qj9 a.natAbs b.natAbs ha hb Q4P w;rwa[q54 (b:=false&&decide (b.natAbs-a.natAbs≠0)) (n:=b.natAbs-a.natAbs) (z:=a+b) Q4P Q5H] at this
 .rw[qpd (by omega:0<=a),qpc h2];by_cases h3:b.natAbs<=a.natAbs
  .have:=qij a.natAbs b.natAbs ha hb h3 w;rwa[q54 (b:=false&&decide (a.natAbs-b.natAbs≠0)) (n:=a.natAbs-b.natAbs) (z:=a+b) Q4P Q5H] at this
  .have:=qik a.natAbs b.natAbs ha hb Q4P w;rwa[q54 (b:=true&&decide (b.natAbs-a.natAbs≠0)) (n:=b.natAbs-a.natAbs) (z:=a+b) Q4P Q5D] at this
 .rw[qpd (by omega:0<=a),qpd (by omega:0<=b)];have:=qgv a.natAbs b.natAbs ha hb Q4P w;rwa[q54 (b:=false&&decide (a.natAbs+b.natAbs≠0)) (n:=a.natAbs+b.natAbs) (z:=a+b) Q4P Q5H] at this
theorem jbd(a b:Int)(h:Hp)(ha:a.natAbs<Top)(hb:b.natAbs<Top)(hab:(a+b).natAbs<Top):qae prog 152 [wz a,wz b] h (wz (a+b)) [] []:=
 qaj Q5K (qag _) (call152 _) (jbc a b ha hb hab)
theorem qz2(a b:Int)(ha:a.natAbs<Top)(hb:b.natAbs<Top)(hab:(a-b).natAbs<Top)(w:World):xa 122 #[wz a,wz b] w (wz (a-b)):=by
 have hn:(-b).natAbs<Top:=by rwa[Int.natAbs_neg]
 have hs:(a + -b).natAbs<Top:=by rwa[<-Int.sub_eq_add_neg]
 refine qah (G:=tys) w tysOK mixed func122 Q4R Q4S Q4Q ?_;repeat' (refine Ba ?_;first|refine Q2J ?_|with_reducible (first|refine Bc (jc0 _ _ hb) ?_|refine Bc (jbd _ _ _ ha hn hs) ?_)|fail)
 all_goals (rw[Int.sub_eq_add_neg])
theorem q86(a b:Int)(h:Hp)(ha:a.natAbs<Top)(hb:b.natAbs<Top)(hab:(a-b).natAbs<Top):qae prog 122 [wz a,wz b] h (wz (a-b)) [] []:=
 qaj Q5K (qag _) (call122 _) (qz2 a b ha hb hab)
def sgn(z:Int):Int:=if z<0 then -1 else if z=0 then 0 else 1
theorem qz3(z:Int):sgn z > 0↔z > 0:=by grind[sgn]
theorem qgh(z:Int):sgn z>=0↔z>=0:=by grind[sgn]
theorem qv1(z:Int)(hz:z.natAbs<Top)(w:World):xa 80 #[wz z] w (xc (sgn z)):=by
 have hz16:=xM hz qb6;refine qah (G:=tys) w tysOK mixed func80 Q4R Q4S Q4Q ?_;repeat' (refine Ba ?_;first|refine Q2J ?_|with_reducible (first|refine Bm _ (qj7 _ _ _ _ hz16 false rfl) ?_|refine Bn (λhb=>?_) λhb=>?_)|fail)
 all_goals
  simp only[xu,xD,xC,if_false] at *
  unfold sgn
  first
   | rw[if_neg Q4P,if_pos Q4P]
   | rw[if_pos Q4P]
   | rw[if_neg Q4P,if_neg Q4P]
theorem q87(z:Int)(h:Hp)(hz:z.natAbs<Top):qae prog 80 [wz z] h (xc (sgn z)) [] []:=
 qaj Q5K rfl (call80 _) (qv1 z hz)
theorem q15(n:Nat):dg n 0=n%18446744073709551616:=by
 show n / Bs^0%Bs=_;rw[yK,Nat.div_one]
def q6r(z:Int):Bool:=decide (-9223372036854775808<=z/\z<9223372036854775808)
def n64(z:Int):Int:=if q6r z then z else 0
theorem tup2{a b:Int}(h:a=b):Value.tuple ⟨[Value.int IntKind.i64 a,Value.bool true]⟩=Value.tuple #[Value.int IntKind.i64 b,Value.bool true]:=by rw[h]
theorem qyc{z:Int}(h : -9223372036854775808<=z/\z<9223372036854775808):q6r z=true/\n64 z=z:=by
 have:q6r z=true:=xg h;exact⟨this,by unfold n64;rw[this];rfl⟩
theorem qz4{z:Int}(h:¬ (-9223372036854775808<=z/\z<9223372036854775808)):q6r z=false/\n64 z=0:=by
 have:q6r z=false:=xj h;exact⟨this,by unfold n64;rw[this];rfl⟩
theorem jbe(n:Nat)(hn:n<Bs^16):bl n<=64↔n<18446744073709551616:=
 ⟨λh=>xh (qnq n hn).1 (ye Q4T h:2^bl n<=2^64),λh=>qg3 n 64 hn h⟩
theorem qz5(z:Int)(hz:z.natAbs<Top)(w:World):xa 268 #[.agg ⟨wiL (decide (z<0)) false z.natAbs⟩] w (.tuple #[xc (n64 z),.bool (q6r z)]):=by
 have hz16:=xM hz qb6;refine qah (G:=tys) w tysOK mixed func268 Q4R Q4S Q4Q ?_;repeat' (refine Ba ?_;first|refine Q2K ?_|with_reducible refine Bn (λhb=>?_) (λhb=>?_)|refine Bc (ja7 _ _ _ _ (qdk Q4R)) ?_|fail)
 all_goals
  have hbl:=jbe z.natAbs hz16
  have hdg:=q15 z.natAbs
  try simp only[yt,xm]
  generalize bl z.natAbs=B at *
  generalize dg z.natAbs 0=D at *
  clear hz hz16
  simp only[xu,xD,beq_iff_eq,beq_eq_false_iff_ne,Bool.not_eq_true',Bool.not_eq_false',ne_eq,yh] at *
  first
   | (obtain⟨e1,e2⟩:=qyc (z:=z) Q4P;rw[e1,e2];exact tup2 Q4P)
   | (obtain⟨e1,e2⟩:=qz4 (z:=z) Q4P;rw[e1,e2])
theorem q16(z:Int)(h:Hp)(hz:z.natAbs<Top):qae prog 268 [wz z] h (.tuple #[xc (n64 z),.bool (q6r z)]) [] []:=
 qaj Q5K rfl (call268 _) (qz5 z hz)
def e64(z:Int):Int:=if q6r z then 0 else 2
theorem qv2(z:Int)(hz:z.natAbs<Top)(w:World):xa 244 #[wz z,xc 0] w (.tuple #[xc (n64 z),xc (e64 z)]):=by
 refine qah (G:=tys) w tysOK mixed func244 Q4R Q4S Q4Q ?_;repeat' (refine Ba ?_;first|refine Q2K ?_|with_reducible (first|refine Bn (λhb=>?_) (λhb=>?_)|refine Bc (q16 z _ hz) ?_)|fail)
 .exfalso;exact absurd hb Q4T
 .have h:q6r z=false:=by simpa using hb
  unfold n64 e64;rw[h];rfl
 .have h:q6r z=true:=by simpa using hb
  unfold e64;rw[h];rfl
theorem qz6(z:Int)(h:Hp)(hz:z.natAbs<Top):qae prog 244 [wz z,xc 0] h (.tuple #[xc (n64 z),xc (e64 z)]) [] []:=
 qaj (by simp[qac];rfl) rfl (call244 _) (qv2 z hz)
end Go.Proofs.YtggfpcfkbilkmaaGreatDoor
