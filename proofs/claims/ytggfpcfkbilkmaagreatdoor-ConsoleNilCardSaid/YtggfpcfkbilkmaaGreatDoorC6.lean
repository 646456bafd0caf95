/-
  The jaq of Dist.
-/
import Derived.Laws.ComplexArith
import Derived.Test.YtggfpcfkbilkmaaGreatDoorC5
set_option linter.unusedVariables false
set_option linter.unusedSimpArgs false
set_option maxRecDepth 100000
set_option maxHeartbeats 20000000
open Go.IntKind
open Go.Proofs.Tryz
namespace Go.Proofs
section
variable{Z Y:Prop}
theorem Q03(h:Z:=by repeat' (refine Ba ?_;first|exact Bd|refine Q3y ?_|refine Q32 ?_|refine Q3i ?_|refine Q33 ?_|refine Bb (@ChunkReLe.mk _ _ _ ⟨.inr rfl⟩ id (nlr _) (nzj)) ?_|refine Q34 ?_|refine Bb (qa6 (qaz ek) rfl) ?_|fail)):Z:=h
theorem Q08(k:Y)(h:Wr Y->Z:=by
 intro kQ;repeat' (refine Ba ?_;first|refine Q2R ?_|refine Q37 ?_|refine Q3a ?_|refine Q3t ?_|refine Q3h ?_|fail)
 refine Ba ?_;exact kQ.o):Z:=h ⟨k⟩
theorem Q0e(k:Y)(h:Wr Y->Z:=by
 intro kQ;repeat' (refine Ba ?_;first|refine Q2R ?_|refine Q3h ?_|refine N.store _ (q76 Q4L) ?_|fail)
 refine Ba ?_;exact kQ.o):Z:=h ⟨k⟩
theorem Q0f(k:Y)(h:Wr Y->Z:=by
 intro kQ;repeat' (refine Ba ?_;first|refine Q2R ?_|refine Q3f ?_|refine Q3n ?_|fail)
 refine Ba ?_;exact kQ.o):Z:=h ⟨k⟩
theorem Q0h(h:Z:=by
 refine qah (G:=tys) w tysOK q2p func236 Q4N Q4O Q4M ?_;repeat' (refine Ba ?_;first|refine Q2R ?_|refine Q31 ?_|with_reducible refine Bm (λhb=>?_) (λhb=>?_)|refine Bc (qj5 _ _) ?_|refine Bc (q72 _ _ _) ?_|refine Bc (cEMay _ _ _ _ _ _) ?_|fail)
 all_goals
  refine jbr ?_
  simp only[xC,xG,xE,false_iff,true_iff,iff_true,iff_false,reduceCtorEq,yk,xu,yl,ym,bne_iff_ne,ne_eq,bne_eq_false_iff_eq] at *
  try first|omega|exact⟨λhh=>⟨by assumption,by assumption,by assumption,hh⟩,λhh=>hh.2.2.2⟩):Z:=h
theorem Q0k(k:Y)(h:Wr Y->Z:=by
 intro kQ;repeat' (refine Ba ?_;first|refine Q2R ?_|refine Be Q5H ?_|refine Q3f ?_|refine Q3n ?_|refine Bc (qj2 C n ps.cap 1 2 3 q3m (λ_=>false) 0 0 true true true k _ Q4N Q4N Q4N Q4L) ?_|refine Bc (qsh _ _ 10 _ (ql8 k Q4L) Q4P) ?_|fail)
 refine Q2K ?_;repeat' (refine Ba ?_;first|refine Q2R ?_|refine Bi k 1 rfl Q4L ?_|fail)
 refine Ba ?_;exact kQ.o):Z:=h ⟨k⟩
theorem Q0m(h:Z:=by
 repeat' (refine Ba ?_;first|refine Q2R ?_|refine Be ho ?_|refine Bf (eq_false_of_ne_true ho) ?_|refine Q3f ?_|fail)
 refine Ba ?_;refine N.next (α:=Nat) (m+1) ⟨hm8,by show 8-(m+1)<8-m;omega⟩ ?_;exact Q16):Z:=h
theorem Q0r(k:Y)(h:Wr Y->Z:=by
 intro kQ;repeat' (refine Ba ?_;first|refine Q2R ?_|refine Q31 ?_|fail)
 refine Ba ?_;exact kQ.o):Z:=h ⟨k⟩
theorem Q0A(h:Z:=by repeat' (refine Ba ?_;first|refine Q2R ?_|exact Bd|refine Q3d ?_|refine Bb (qa6 (qaz ek) rfl) ?_|refine Bb qgd ?_|refine Bb (.one .quo) ?_|refine Bb (.one (.any (λ_ _=>rfl) λ_ _=>rfl)) ?_|fail)):Z:=h
theorem Q0C(h:Z:=by repeat' (refine Ba ?_;first|refine Q2R ?_|exact Bd|refine Q3d ?_|refine Bb (qa6 (qaz ek) rfl) ?_|refine Bb (qa6 (qaz es) rfl) ?_|refine Bb qgd ?_|refine Bb (.one .quo) ?_|fail)):Z:=h
theorem Q0H(h:Z:=by repeat' (refine Ba ?_;first|refine Q2R ?_|exact Bd|refine Q3d ?_|refine Bb (qa6 (qaz ek) rfl) ?_|refine Bb qgd ?_|refine Bb (.one .quo) ?_|fail)):Z:=h
theorem Q0M(h:Z:=by exact Q2d):Z:=h
theorem Q0U(k:Y)(h:Wr Y->Z:=by
 intro kQ;repeat' (refine Ba ?_;first|refine Q2R ?_|refine Q3f ?_|refine Bb (by rw[e8];omega) ?_|fail)
 refine Ba ?_;exact kQ.o):Z:=h ⟨k⟩
theorem Q0X(h:Z:=by
 intro X ρ w2 xs H hx;rcases key X ρ w2 xs H hx with ⟨v,w',hr',u,ms,ρ',⟨κ,hκ,rfl,rfl⟩,ha⟩|⟨hr',hcl⟩
 .exact .inl ⟨v,w',hr',_,_,ρ',⟨κ,hκ,rfl,rfl⟩,ha⟩
 .refine .inr ⟨hr',hcl.mono ?_⟩;rintro e w' ⟨y,he,u,ms,ρ',⟨κ,hκ,rfl,rfl⟩,ha⟩;exact⟨y,he,_,_,ρ',⟨κ,hκ,rfl,rfl⟩,ha⟩):Z:=h
theorem Q10(h:Z:=by
 obtain⟨q,rfl,rfl⟩:=hR;refine⟨by simp,?_⟩;repeat' (refine Ba ?_;first|refine Q2R ?_|refine Q3m ?_|fail)
 refine Ba ?_;refine AppN.mk1 (.agg ⟨[q2u q]⟩) (qd2 rfl rfl) rfl (by show k*1<=cap;omega) Q4L (by show(k+1)*8<=_;omega) (prC cap (prF (upd g k q) (k+1))) (λh=>q98 rfl (show k+1<=cap from h) (x6 k)) (λhr=>?_) (λhg cap2 hcap2=>?_)
 .refine Q0e ?_;refine Bk (α:=Option (Nat×Nat×(Rz))) (some (k+1,cap,upd g k q)) [(0,0),(1,1),(2,2),(3,3),(4,4),(8,8),(9,9),(10,10)] ⟨⟨by show 1<=_;omega,by show _<=n;omega,by show _<=_;omega⟩,by show n-(k+1)<n-k;omega⟩ ?_;exact Q2N
 .refine Q0e ?_;refine Bk (α:=Option (Nat×Nat×(Rz))) (some (k+1,cap2,upd g k q)) [(0,0),(1,1),(2,2),(3,3),(4,4),(8,8),(9,9),(22,10)] ⟨⟨by show 1<=_;omega,by show _<=n;omega,by show _<=_;omega⟩,by show n-(k+1)<n-k;omega⟩ ?_;exact Q2N):Z:=h
theorem Q16(h:Z:=by repeat' (refine Ba ?_;first|refine Q2R ?_|exact Bd|refine Bb (congrArg (Value.int .u32) es) ?_|refine Bb (congrArg (Value.int .i64) em) ?_|refine Bb (ChunkLe.refl _) ?_|fail)):Z:=h
theorem Q1r(h:Z:=by
 refine Bb (.plain rfl) ?_;refine Bb ⟨Q3T,xb⟩ ?_;exact Q0M):Z:=h
theorem Q1s(k:Y)(h:Wr Y->Z:=by
 intro kQ;refine qah (G:=tys) w tysOK q2p func203 Q4N Q4O Q4M ?_;exact kQ.o):Z:=h ⟨k⟩
theorem Q1N(h:Z:=by
 simp only[xf,Prod.mk.injEq,xw,or_false] at hm;omega):Z:=h
theorem Q2s(h:Z:=by
 refine qam key λv ms hR=>?_
 obtain⟨κ,_,rfl,rfl⟩:=hR;exact⟨κ,rfl,rfl⟩):Z:=h
theorem Q2K(k:Y)(h:Wr Y->Z:=by
 intro kQ;refine Ba ?_;refine Bp [0,1,2,3,4,5,6,7,8,9,10,11,12,16,17,19] [(13,[14]),(15,[18,20])] Q4Q ?_;exact kQ.o):Z:=h ⟨k⟩
theorem Q2N(h:Z:=by
 have hon:onK (k+1)=upd (onK k) k true:=(qh1 _).symm;skip;exact Q03):Z:=h
theorem Q30(k:Y)(h:Wr Y->Z:=by intro kQ;(first|refine Bi 1 0 Q4P Q4P ?_|refine Bi 2 0 Q4P Q4P ?_|refine Bi 3 0 Q4P Q4P ?_|refine Bf Q4P ?_|refine Be Q4P ?_|fail);exact kQ.o):Z:=h ⟨k⟩
theorem Q32(k:Y)(h:Wr Y->Z:=by intro kQ;(first|refine Bb ⟨id,nlr _,Q4R⟩ ?_|fail);exact kQ.o):Z:=h ⟨k⟩
theorem Q33(k:Y)(h:Wr Y->Z:=by intro kQ;(first|refine Bb ⟨id,nlr _,Q4Y⟩ ?_|fail);exact kQ.o):Z:=h ⟨k⟩
theorem Q38(k:Y)(h:Wr Y->Z:=by intro kQ;(first|refine Bi 1 0 Q4P Q4P ?_|refine Bi 2 0 Q4P Q4P ?_|fail);exact kQ.o):Z:=h ⟨k⟩
theorem Q3c(k:Y)(h:Wr Y->Z:=by intro kQ;(first|refine Bc (jbo c n cap _ _ _ P M tm st _ _ _ _ _ Q4N Q4N Q4N) ?_|refine Bf (by simp only[xC,xG,Bool.not_eq_eq_eq_not,yM,yB];omega) ?_|fail);exact kQ.o):Z:=h ⟨k⟩
theorem Q3f(k:Y)(h:Wr Y->Z:=by intro kQ;(first|refine Be (xg Q4L) ?_|fail);exact kQ.o):Z:=h ⟨k⟩
theorem Q3m(k:Y)(h:Wr Y->Z:=by intro kQ;(first|refine Bb Q4Z ?_|fail);exact kQ.o):Z:=h ⟨k⟩
theorem Q3o(k:Y)(h:Wr Y->Z:=by intro kQ;(first|refine Bq 5 ?_|refine Bi 0 0 Q4P Q4P ?_|fail);exact kQ.o):Z:=h ⟨k⟩
theorem Q3t(k:Y)(h:Wr Y->Z:=by intro kQ;(first|refine N.op (qci rfl rfl ⟨_,rfl,_,underlying30⟩) ?_|fail);exact kQ.o):Z:=h ⟨k⟩
theorem Q3v(k:Y)(h:Wr Y->Z:=by intro kQ;(first|refine Bc (qj5 _ _) ?_|refine Bc (q72 _ _ _) ?_|refine Be (xg hs) ?_|refine Be (xg hb) ?_|refine Be (xg hq) ?_|refine Be (xg hst) ?_|refine Bn _ (qsz _ _) ?_|fail);exact kQ.o):Z:=h ⟨k⟩
theorem Q3w(k:Y)(h:Wr Y->Z:=by intro kQ;(first|refine Bb xb ?_|refine Bb ⟨⟨.inr ⟨_,rfl,rfl⟩,xb⟩,xb⟩ ?_|fail);exact kQ.o):Z:=h ⟨k⟩
theorem Q3y(k:Y)(h:Wr Y->Z:=by intro kQ;(first|refine Bb (qbk (λ_ _=>rfl) λj _=>qcg j) ?_|refine Bb pr_ren ?_|refine Bb (q70 rfl (nzj) Q4L) ?_|refine Bb (q70 rfl (λj hj=>qay Q4L) Q4L) ?_|refine Bb (qb0 λj _=>congrFun hon j) ?_|fail);exact kQ.o):Z:=h ⟨k⟩
theorem Q3C(k:Y)(h:Wr Y->Z:=by intro kQ;(first|refine Bb ⟨⟨_,rfl,id,nlr _,(by first|(refine q8p ?_ ?_ ?_ ?_ ?_ ?_ ?_ ?_ ?_ ?_ ?_ ?_ ?_ ?_ ?_<;>first|exact Re1.plain rfl|exact Re1.slice rfl|exact qa2 (by rw[e1]))|fail)⟩,xb⟩ ?_|fail);exact kQ.o):Z:=h ⟨k⟩
theorem Q3J(k:Y)(h:Wr Y->Z:=by intro kQ;(first|refine Bb (.plain rfl) ?_|fail);exact kQ.o):Z:=h ⟨k⟩
theorem Q3T(h:Z:=by first|exact ⟨_,rfl,λh=>h,nlr _,nzj⟩|fail):Z:=h
theorem Q43(h:Z:=by first|exact ⟨⟨λh=>Q5d,nlr _,qfu rfl rfl⟩,⟨λh=>Q5d,nlr _,qbn⟩,⟨λh=>Q5d,nlr _,qbo⟩,xb⟩|fail):Z:=h
theorem Q46(h:Z:=by first|exact ⟨⟨λh=>⟨rfl,nlr _⟩,nlr _,qd9⟩,xb⟩|fail):Z:=h
theorem Q47(h:Z:=by first|exact ⟨⟨.inr ⟨_,rfl,rfl⟩,.inr ⟨_,rfl,rfl⟩,xb⟩,xb⟩|fail):Z:=h
theorem Q49(h:Z:=by first|exact ⟨λh=>Q5d,nlr _,qbo⟩|fail):Z:=h
theorem Q4a(h:Z:=by first|exact ⟨λh=>Q5d,nlr _,qbn⟩|fail):Z:=h
theorem Q4d(h:Z:=by first|exact (hh 5 Q4X).trans rfl|fail):Z:=h
theorem Q4e(h:Z:=by first|exact (hh 0 Q4X).trans rfl|fail):Z:=h
theorem Q4n(h:Z:=by first|exact ⟨⟨_,rfl,λh=>h,nlr _,qd9⟩,xb⟩|fail):Z:=h
theorem Q4y(h:Z:=by first|exact (hh 8 Q4X).trans rfl|fail):Z:=h
theorem Q4z(h:Z:=by first|exact (hh 1 Q4X).trans rfl|fail):Z:=h
theorem Q4A(h:Z:=by first|exact ⟨.inr ⟨rfl,rfl⟩,.inr ⟨rfl,rfl⟩,xb⟩|fail):Z:=h
theorem Q4R(h:Z:=by first|(refine q57 ?_ ?_ ?_ ?_ ?_ ?_ ?_ ?_ ?_ ?_ ?_ ?_ ?_ ?_ ?_ ?_<;>first|exact Re1.plain rfl|exact Re1.ptr rfl|exact Re1.slice rfl)|fail):Z:=h
theorem Q4U(h:Z:=by simp only[xR,qb9,yt,List.length_nil];omega):Z:=h
theorem Q4Y(h:Z:=by first|(refine q8p ?_ ?_ ?_ ?_ ?_ ?_ ?_ ?_ ?_ ?_ ?_ ?_ ?_ ?_ ?_<;>first|exact Re1.plain rfl|exact Re1.ptr rfl|exact Re1.slice rfl)|fail):Z:=h
theorem Q5A(h:Z:=by rw[xR];rfl):Z:=h
theorem Q5M(h:Z:=by rw[h2];decide):Z:=h
end
end Go.Proofs

namespace Go.Proofs.YtggfpcfkbilkmaaGreatDoor
open Go.RowKit
def q2y(n:Int):Bool:=inB n 4194304
def q3q(px py qx qy:Int):Int:=if q2y px&&q2y py&&q2y qx&&q2y qy then (isq ((px-qx)*(px-qx)+(py-qy)*(py-qy)).toNat:Nat) else 0
theorem qdi{n:Int}(h:q2y n=true): -4194304<=n/\n<=4194304:=by
 unfold q2y inB at h;simpa using h
theorem qoy(d M:Int)(h1 : -M<=d)(h2:d<=M):0<=d*d/\d*d<=M*M:=by
 have e:d*d=((d.natAbs*d.natAbs:Nat):Int):=(Int.natAbs_mul_self' d).symm.trans (x5 _ _).symm;have h3:d.natAbs<=M.toNat:=by omega
 have h4:=yc h3 h3;have h5:((M.toNat*M.toNat:Nat):Int)=M*M:=by
  rw[x5,Int.toNat_of_nonneg Q4L]
 omega
theorem qvi(px py qx qy:Int)(w:World):
  xa 206 #[.agg #[xc px,xc py],.agg #[xc qx,xc qy]] w (xc (q3q px py qx qy)):=by
 have hB:Below w.heap.size w w:=Below.refl _ _
 have i0:∀w:World,(Instr.index 290 (.agg #[xc px,xc py,xc qx,xc qy]) (xc 0)).run prog w=.ok (xc px) w:=λw=>by kernel_rfl
 have i1:∀w:World,(Instr.index 290 (.agg #[xc px,xc py,xc qx,xc qy]) (xc 1)).run prog w=.ok (xc py) w:=λw=>by kernel_rfl
 have i2:∀w:World,(Instr.index 290 (.agg #[xc px,xc py,xc qx,xc qy]) (xc 2)).run prog w=.ok (xc qx) w:=λw=>by kernel_rfl
 have i3:∀w:World,(Instr.index 290 (.agg #[xc px,xc py,xc qx,xc qy]) (xc 3)).run prog w=.ok (xc qy) w:=λw=>by kernel_rfl
 have hB2:Below w.heap.size w ((w.alloc (.cells #[xc px,xc py] 61)).alloc (.cells #[xc qx,xc qy] 61)):=(hB.alloc (nlr _) _).alloc Q4X _
 go_enter func206,Tryz.ntmps206
 go_wp2_with fail
 go_loopw [18] (λi wr=>wr=(w.alloc (.cells #[xc px,xc py] 61)).alloc (.cells #[xc qx,xc qy] 61)/\(i=xc 0\/(i=xc 1/\q2y px=true)\/(i=xc 2/\q2y px=true/\q2y py=true)\/(i=xc 3/\q2y px=true/\q2y py=true/\q2y qx=true)\/(i=xc 4/\q2y px=true/\q2y py=true/\q2y qx=true/\q2y qy=true))) (λi _=>4-(intOf i).toNat)
 case atStart=>exact⟨by first|trivial|rfl,.inl rfl⟩
 case round=>
  obtain⟨rfl,hrel⟩:=hrel
  rcases hrel with rfl|⟨rfl,a1⟩|⟨rfl,a1,a2⟩|⟨rfl,a1,a2,a3⟩|⟨rfl,a1,a2,a3,a4⟩
  .go_wp2_with fail
   refine(qox px 4194304 _ Q4L).mono ?_;rintro e w' ⟨rfl,rfl⟩;cases hc:inB px 4194304
   .have HC:=Lib.hid hc;clear hc
    go_wp2_with fail
    go_ret
    exact⟨by unfold q3q;rw[show q2y px=false from HC.out];simp,hB2⟩
   .have HC:=Lib.hid hc;clear hc
    go_wp2_with fail
    go_roundw
    case rel=>have hc:=HC.out;exact⟨by first|trivial|rfl,.inr (.inl ⟨rfl,hc⟩)⟩
    case measure=>simp[intOf]
  .have KN:=Lib.hid (show q2y px=true/\True from⟨a1,xb⟩);clear a1
   go_wp2_with fail
   refine(qox py 4194304 _ Q4L).mono ?_;rintro e w' ⟨rfl,rfl⟩;cases hc:inB py 4194304
   .have HC:=Lib.hid hc;clear hc
    go_wp2_with fail
    go_ret
    exact⟨by unfold q3q;rw[show q2y py=false from HC.out];simp,hB2⟩
   .have HC:=Lib.hid hc;clear hc
    go_wp2_with fail
    go_roundw
    case rel=>have hc:=HC.out;obtain⟨a1,_⟩:=KN.out;exact⟨by first|trivial|rfl,.inr (.inr (.inl ⟨rfl,a1,hc⟩))⟩
    case measure=>simp[intOf]
  .have KN:=Lib.hid (show q2y px=true/\q2y py=true/\True from⟨a1,a2,xb⟩);clear a1 a2
   go_wp2_with fail
   refine(qox qx 4194304 _ Q4L).mono ?_;rintro e w' ⟨rfl,rfl⟩;cases hc:inB qx 4194304
   .have HC:=Lib.hid hc;clear hc
    go_wp2_with fail
    go_ret
    exact⟨by unfold q3q;rw[show q2y qx=false from HC.out];simp,hB2⟩
   .have HC:=Lib.hid hc;clear hc
    go_wp2_with fail
    go_roundw
    case rel=>have hc:=HC.out;obtain⟨a1,a2,_⟩:=KN.out;exact⟨by first|trivial|rfl,.inr (.inr (.inr (.inl ⟨rfl,a1,a2,hc⟩)))⟩
    case measure=>simp[intOf]
  .have KN:=Lib.hid (show q2y px=true/\q2y py=true/\q2y qx=true/\True from⟨a1,a2,a3,xb⟩);clear a1 a2 a3
   go_wp2_with fail
   refine(qox qy 4194304 _ Q4L).mono ?_;rintro e w' ⟨rfl,rfl⟩;cases hc:inB qy 4194304
   .have HC:=Lib.hid hc;clear hc
    go_wp2_with fail
    go_ret
    exact⟨by unfold q3q;rw[show q2y qy=false from HC.out];simp,hB2⟩
   .have HC:=Lib.hid hc;clear hc
    go_wp2_with fail
    go_roundw
    case rel=>have hc:=HC.out;obtain⟨a1,a2,a3,_⟩:=KN.out;exact⟨by first|trivial|rfl,.inr (.inr (.inr (.inr ⟨rfl,a1,a2,a3,hc⟩)))⟩
    case measure=>simp[intOf]
  .have b1:=qdi a1;have b2:=qdi a2;have b3:=qdi a3;have b4:=qdi a4;have HD:Hid (q3q px py qx qy=(isq ((px-qx)*(px-qx)+(py-qy)*(py-qy)).toNat:Nat)):=by
    show _=_;unfold q3q;rw[a1,a2,a3,a4];rfl
   clear a1 a2 a3 a4;obtain⟨b1,b1'⟩:=b1;obtain⟨b2,b2'⟩:=b2;obtain⟨b3,b3'⟩:=b3;obtain⟨b4,b4'⟩:=b4;obtain⟨s1,s2⟩:=qoy (px-qx) 8388608 Q4L Q4L;obtain⟨s3,s4⟩:=qoy (py-qy) 8388608 Q4L Q4L
   go_wp2_with fail
   go_region
   go_wp2_with fail
   have hB3:=hB2.drew;refine(qsr _ Q4L _).mono ?_;rintro e w2 ⟨rfl,hb⟩;have hB4:Below w.heap.size w w2:=hB3.trans (hb.mono hB3.size)
   go_wp2_with fail
   go_ret
   exact⟨by rw[HD.out];rfl,hB4⟩
open Go Go.RowKit Sx
abbrev wcc(o:Bool)(c:Nat->Int)(n cap j k:Nat)(tm st:Int):Chunk:=⟨o,15,[(0,15,.agg #[xc (c 0),xc (c 1),xc (c 2),xc (c 3),xc (c 4),xc (c 5),xc (c 6),xc (c 7),xc (c 8),xc (c 9),xc (c 10),.slice (some ⟨j,0,some 0⟩) n cap,.slice (some ⟨k,0,some 0⟩) n n,xc tm,xc st])]⟩
variable{ix:Lz}{n cap k:Nat}
theorem qfu{o o':Bool}{c:Nat->Int}{j j' k':Nat}{tm st:Int}(h1:ixK ix j'=some j)(h2:ixK ix k'=some k):qb6 ix (wcc o c n cap j k tm st) (wcc o' c n cap j' k' tm st):=
 (by first|(refine q8p ?_ ?_ ?_ ?_ ?_ ?_ ?_ ?_ ?_ ?_ ?_ ?_ ?_ ?_ ?_<;>first|exact Re1.plain rfl|exact Re1.slice Q5e)|fail)
variable{P:Nat->Int}
theorem qbn{o o':Bool}:qb6 ix (ptP o n P) (ptP o' n P):=λj hj=>by
 have hj:j<n*2:=hj;rw[qb8 hj,qb8 hj];exact .plain rfl
theorem qbo{o o':Bool}{M:Nat->Bool}:qb6 ix (mvP o n M) (mvP o' n M):=λj hj=>by
 have hj:j<n:=hj;rw[qb8 hj,qb8 hj];exact .plain rfl
theorem qj1{o:Bool}{p:Nat}(h:p<n):Reads (ptP o n P) (p*2) true (1*2) (.agg ⟨[xc (P (p*2)),xc (P (p*2+1))]⟩):=
 ⟨by show p*2+1*2<=n*2;omega,_,rfl,rfl,λj hj=>by
  match j,hj with
  | 0,_=>rw[qb8 Q4L];rfl
  | 1,_=>rw[qb8 Q4L];rfl⟩
theorem jbo(c:Nat->Int)(n cap i j k:Nat)(P:Nat->Int)(M:Nat->Bool)(tm st:Int)(o1 o2 o3:Bool)(x:Int)(h:Hp)(hi:h[i]?=some (some (wcc o1 c n cap j k tm st)))(hj:h[j]?=some (some (ptP o2 n P)))(hk:h[k]?=some (some (mvP o3 n M)))  :
  qae prog 43 [xd i,xc x] h (.bool (decide (0<=x/\x<(n:Int)))) [] [i,j,k]:=by
 refine qau (G:=tys) [⟨i,_,wcc false c n cap 1 2 tm st,⟨false,0,[]⟩⟩,⟨j,_,ptP false n P,⟨false,0,[]⟩⟩,⟨k,_,mvP false n M,⟨false,0,[]⟩⟩] [] [xd 0,xc x] tysOK q2p func43 Q4N (call43) ⟨hi,hj,hk,xb⟩ Q43 Q51 xb Q3Y ?_
 repeat' (refine Ba ?_;first|refine Q2R ?_|with_reducible refine Bm (λhb=>?_) (λhb=>?_)|fail)
 all_goals
  refine Bb (qov (q3y ?_).symm rfl) ?_
  .simp only[xC,xG,xE,false_iff,true_iff,iff_true,iff_false,reduceCtorEq,yk,xu,yl,ym] at *;omega
  .repeat' (refine Ba ?_;first|refine Q2R ?_|refine Bb xb ?_|exact Bd|fail)
theorem qj2(c:Nat->Int)(n cap i j k:Nat)(P:Nat->Int)(M:Nat->Bool)(tm st:Int)(o1 o2 o3:Bool)(p:Nat)(h:Hp)(hi:h[i]?=some (some (wcc o1 c n cap j k tm st)))(hj:h[j]?=some (some (ptP o2 n P)))(hk:h[k]?=some (some (mvP o3 n M)))(hp:p<n):
  qae prog 19 [xd i,xc (p:Int)] h (.tuple #[.agg #[xc (P (p*2)),xc (P (p*2+1))],.bool true]) [] [i,j,k]:=by
 refine qau (G:=tys) [⟨i,_,wcc false c n cap 1 2 tm st,⟨false,0,[]⟩⟩,⟨j,_,ptP false n P,⟨false,0,[]⟩⟩,⟨k,_,mvP false n M,⟨false,0,[]⟩⟩] [] [xd 0,xc (p:Int)] tysOK q2p func19 Q4N (call19) ⟨hi,hj,hk,xb⟩ Q43 Q51 xb Q3Y ?_
 repeat' (refine Ba ?_;first|refine Q2R ?_|refine Q3c ?_|refine Bi p 1 rfl hp ?_|refine Bl _ (qj1 hp) ?_|refine Bb xb ?_|exact Bd|refine Q3J ?_|fail)
def q47(p:Nat)(b m:Int):Int:=(b*(p:Int))%(2*m+1)-m
theorem qzr(p:Nat)(b m:Int)(hm:0<=m): -m<=q47 p b m/\q47 p b m<=m:=by
 unfold q47;have h1:=Int.emod_nonneg (b*(p:Int)) (show 2*m+1≠0 by omega);have h2:=Int.emod_lt_of_pos (b*(p:Int)) (show 0<2*m+1 by omega);omega
theorem q1w{p:Nat}{b m:Int}(hp:p<64)(hb:0<=b/\b<=13)(hm:0<=m/\m<=1000):(IntKind.i64.wrap (b*(p:Int))).tmod (IntKind.i64.wrap (IntKind.i64.wrap (2*m)+1))-m=q47 p b m/\0<=b*(p:Int)/\b*(p:Int)<=13*63:=by
 have k0:0<=b*(p:Int):=y3 Q4L Q4L;have k1:b*(p:Int)<=13*63:=Int.mul_le_mul Q4L Q4L Q4L Q4L;refine⟨?_,k0,k1⟩;rw[q23 (2*m) Q4L Q4L,q23 (2*m+1) Q4L Q4L,q23 (b*(p:Int)) Q4L Q4L,Int.tmod_eq_emod_of_nonneg k0];have h1:=Int.emod_nonneg (b*(p:Int)) (show 2*m+1≠0 by omega);rfl
theorem q1x(p:Nat)(b m:Int)(hp:p<64)(hb:0<=b/\b<=13)(hm:0<=m/\m<=1000)(w:World):xa 176 #[xc (p:Int),xc b,xc m] w (xc (q47 p b m)):=by
 refine qah (G:=tys) w tysOK q2p func176 Q4N Q4O Q4M ?_;repeat' (refine Ba ?_;first|refine Q2R ?_|refine Bb (by simp only[yh];omega) ?_|fail)
 obtain⟨k1,k2,k3⟩:=q1w hp hb hm;have:=qzr p b m Q4L;exact qjz ((congrArg IntKind.i64.wrap k1).trans (q23 _ Q4L Q4L))
theorem ja2(p:Nat)(b m:Int)(h:Hp)(hp:p<64)(hb:0<=b/\b<=13)(hm:0<=m/\m<=1000):qae prog 176 [xc (p:Int),xc b,xc m] h (xc (q47 p b m)) [] []:=
 qan rfl rfl (call176 _) (q1x p b m hp hb hm)
theorem cDist(px py qx qy:Int)(h:Hp):qae prog 206 [.agg #[xc px,xc py],.agg #[xc qx,xc qy]] h (xc (q3q px py qx qy)) [] []:=qan Q4N Q4N (call206 _) (λw=>qvi px py qx qy w)
theorem q96(c:Nat->Int)(n cap i j k:Nat)(P:Nat->Int)(M:Nat->Bool)(tm st:Int)(o1 o2 o3:Bool)(p:Nat)(h:Hp)(hi:h[i]?=some (some (wcc o1 c n cap j k tm st)))(hj:h[j]?=some (some (ptP o2 n P)))(hk:h[k]?=some (some (mvP o3 n M)))(hp:p<n)(h64:n<=64)(hs:0<=c 4/\c 4<=100):
  qae prog 134 [xd i,xc (p:Int)] h (xc (q6s (q47 p 7 (c 4)) tm)) [] [i,j,k]:=by
 refine qau (G:=tys) [⟨i,_,wcc false c n cap 1 2 tm st,⟨false,0,[]⟩⟩,⟨j,_,ptP false n P,⟨false,0,[]⟩⟩,⟨k,_,mvP false n M,⟨false,0,[]⟩⟩] [] [xd 0,xc (p:Int)] tysOK q2p func134 Q4N (call134) ⟨hi,hj,hk,xb⟩ Q43 Q51 xb Q3Y ?_
 repeat' (refine Ba ?_;first|refine Q2R ?_|refine Q3c ?_|with_reducible (first|refine Bc (ja2 _ _ _ _ Q4L Q4L Q4L) ?_|refine Bc (q1r _ _ _) ?_)|refine Bb xb ?_|exact Bd|refine Q3J ?_|fail)
theorem qj3(c:Nat->Int)(n cap i j k:Nat)(P:Nat->Int)(M:Nat->Bool)(tm st:Int)(o1 o2 o3:Bool)(p:Nat)(g:Int)(h:Hp)(hi:h[i]?=some (some (wcc o1 c n cap j k tm st)))(hj:h[j]?=some (some (ptP o2 n P)))(hk:h[k]?=some (some (mvP o3 n M)))(hp:p<n)(h64:n<=64)(hs:0<=c 5/\c 5<=1000):
  qae prog 135 [xd i,xc (p:Int),xc g] h (xc (if qhu (q47 p 13 (c 5)) (IntKind.i64.wrap (12345*(p:Int))) g then q6t (q47 p 13 (c 5)) (IntKind.i64.wrap (12345*(p:Int))) g else 0)) [] [i,j,k]:=by
 refine qau (G:=tys) [⟨i,_,wcc false c n cap 1 2 tm st,⟨false,0,[]⟩⟩,⟨j,_,ptP false n P,⟨false,0,[]⟩⟩,⟨k,_,mvP false n M,⟨false,0,[]⟩⟩] [] [xd 0,xc (p:Int),xc g] tysOK q2p func135 Q4N (call135) ⟨hi,hj,hk,xb⟩ Q43 Q51 xb Q4b ?_
 repeat' (refine Ba ?_;first|refine Q2R ?_|refine Q3c ?_|with_reducible (first|refine Bc (ja2 _ _ _ _ Q4L Q4L Q4L) ?_|refine Bc (q94 _ _ _ _) ?_)|refine Bb xb ?_|exact Bd|refine Q3J ?_|fail)
theorem qvj(c:Nat->Int)(n cap i j k:Nat)(P:Nat->Int)(M:Nat->Bool)(tm st:Int)(o1 o2 o3:Bool)(p q:Nat)(h:Hp)(hi:h[i]?=some (some (wcc o1 c n cap j k tm st)))(hj:h[j]?=some (some (ptP o2 n P)))(hk:h[k]?=some (some (mvP o3 n M)))(hp:p<n)(hq:q<n):
  qae prog 166 [xd i,xc (p:Int),xc (q:Int)] h (xc (q3q (P (p*2)) (P (p*2+1)) (P (q*2)) (P (q*2+1)))) [] [i,j,k]:=by
 refine qau (G:=tys) [⟨i,_,wcc false c n cap 1 2 tm st,⟨false,0,[]⟩⟩,⟨j,_,ptP false n P,⟨false,0,[]⟩⟩,⟨k,_,mvP false n M,⟨false,0,[]⟩⟩] [] [xd 0,xc (p:Int),xc (q:Int)] tysOK q2p func166 Q4N (call166) ⟨hi,hj,hk,xb⟩ Q43 Q51 xb Q4b ?_
 repeat' (refine Ba ?_;first|refine Q2R ?_|refine Q3c ?_|refine Bi p 1 rfl hp ?_|refine Bl _ (qj1 hp) ?_|refine Bi q 1 rfl hq ?_|refine Bl _ (qj1 hq) ?_|with_reducible refine Bc (cDist _ _ _ _ _) ?_|refine Bb xb ?_|exact Bd|refine Q3J ?_|fail)
open Go.RowKit
open Go Go.RowKit Sx
def wiB(x y m:Int):Prop:=-m<=x/\x<=m/\-m<=y/\y<=m
instance(x y m:Int):Decidable (wiB x y m):=by unfold wiB;infer_instance
open Go Go.RowKit Sx
theorem qa2{k:IntKind}{a b:Int}(h:a=b):Re1 ix (.int k a) (.int k b):=by subst h;exact .plain rfl
theorem q97(c:Nat->Int)(n cap i j k:Nat)(P:Nat->Int)(M:Nat->Bool)(tm st:Int)(o2 o3:Bool)(h:Hp)(hi:h[i]?=some (some (wcc true c n cap j k tm st)))(hj:h[j]?=some (some (ptP o2 n P)))(hk:h[k]?=some (some (mvP o3 n M)))(hij:i≠j)(hik:i≠k)(ht:0<=tm/\tm<=1000000)(hst:0<=st/\st<=16777215):
  qae prog 131 [xd i] h (xc (tm*16777216+min (st+1) 16777215)) [(i,wcc true c n cap j k tm (min (st+1) 16777215))] [j,k]:=by
 have e1:IntKind.i64.wrap (st+1)=st+1:=q23 _ Q4L Q4L
 have e2:IntKind.i64.wrap (tm*16777216)=tm*16777216:=q23 _ Q4L Q4L
 have e3:IntKind.i64.wrap (tm*16777216+min (st+1) 16777215)=tm*16777216+min (st+1) 16777215:=q23 _ Q4L Q4L
 refine qau (G:=tys) [⟨i,_,wcc true c n cap 1 2 tm st,wcc true c n cap j k tm (min (st+1) 16777215)⟩,⟨j,_,ptP false n P,⟨false,0,[]⟩⟩,⟨k,_,mvP false n M,⟨false,0,[]⟩⟩] [] [xd 0] tysOK q2p func131 Q4N (call131) ⟨hi,hj,hk,xb⟩ ⟨⟨λh=>⟨rfl,nlr _⟩,nlr _,qfu rfl rfl⟩,Q4a,Q49,xb⟩ (by simp[Apart,hij,hik]) xb ⟨.ptr rfl,xb⟩ ?_
 repeat' (refine Ba ?_;first|refine Q2R ?_|with_reducible refine N.min2 ?_|refine Bb (qov (qjz (by rw[e1,e2,e3])) rfl) ?_|refine Q3C ?_|refine Bb xb ?_|exact Bd|fail)
abbrev ndX(s:NSt):Ext:=q3z (λ_:Rz=>True) (ndH s)
theorem qfv:∀s,Selfish (ndX s):=λs=>qao
def prF(g:Rz)(k j:Nat):Value:=if j<k then q2u (g j) else .pointer none
abbrev prC(cap:Nat)(f:Nat->Value):Chunk:=⟨true,cap,[(0,cap,.agg ⟨segL cap f⟩)]⟩
theorem q1y(g:Rz){j:Nat}(h:j<k):prF g k j=q2u (g j):=if_pos h
theorem ql5(g:Rz)(k j:Nat):qa4 (prF g k j)=true:=by
 unfold prF;split<;>rfl
theorem qsu(g:Rz)(k:Nat)(q:Nat×Nat)(j:Nat):prF (upd g k q) (k+1) j=if j=k then q2u q else prF g k j:=by
 unfold prF;by_cases e:j=k
 .subst e;rw[if_pos (yR _),qeu,if_pos rfl]
 .rw[if_neg e,qd8 _ _ e];by_cases h:j<k
  .rw[if_pos h,if_pos Q4L]
  .rw[if_neg h,if_neg Q4L]
variable{q:Nat×Nat}
theorem q98{p:Nat}{g:Rz}{v:Value}(hv:v=.agg ⟨[q2u q]⟩)(h:k<cap)(hp:p=k):Writes (prC cap (prF g k)) p 1 v (prC cap (prF (upd g k q) (k+1))):=by
 subst hp hv;refine⟨rfl,h,rfl,λj hj=>?_⟩;have hj:j<cap:=hj;rw[qay hj,qay hj,qsu];by_cases e:j=p
 .subst e;rw[if_pos rfl,if_pos Q4L,yO];rfl
 .rw[if_neg e,if_neg Q4L]
theorem q70{ci:Chunk}{g:Rz}{z:Value}(hz:z=.pointer none)(hc:∀j,j<k->ci.f j=prF g k j)(h:k+1<=cap):ChunkReLe ix (prC cap (prF (upd g k q) (k+1))) (grown ci k 1 1 (.agg ⟨[q2u q]⟩) z cap):=by
 subst hz;refine⟨λ_=>rfl,by show cap<=cap*1;omega,λj hj=>?_⟩;have hj:j<cap:=hj;have e:(grown ci k 1 1 (.agg ⟨[q2u q]⟩) (.pointer none) cap).f j=(prC cap (prF (upd g k q) (k+1))).f j:=by
  rw[qay hj,qsu];by_cases h1:j<k
  .rw[qdq Q4L,hc j h1,if_neg Q4L]
  .by_cases h2:j=k
   .subst h2;have:=qdr (ci:=ci) (l:=j) (m:=1) (size:=1) (cap:=cap) (v:=.agg ⟨[q2u q]⟩) (z:=.pointer none) (j:=0) Q4L;rw[show j*1+0=j by omega] at this;rw[this,if_pos rfl];rfl
   .rw[qcx Q4L Q4L,if_neg h2];unfold prF repZ;rw[if_neg h1,yH];rfl
 rw[e,qay hj];exact .plain (ql5 _ _ _)
theorem pr_ren{g:Rz}:ChunkReLe ix (prC cap (prF g k)) (prC cap (prF g k)):=
 ⟨id,nlr _,λj hj=>.plain (by rw[qay hj];exact ql5 _ _ _)⟩
theorem q99{j p:Nat}{g:Rz}(h:j<k)(hc:k<=cap)(hp:p=j):Reads (prC cap (prF g k)) p false 1 (q2u (g j)):=by
 subst hp;exact qdu Q4L rfl (q1y g h)
theorem qpw(k:Nat)(q:Nat×Nat):FreeV k (q2u q):=λr r' _=>by rw[qef,qef]
def q2x(C:Nat->Int)(i:Nat):NSt:=if i<3 then q3c C (i:Int) 0 true (q3m (i*2)) (q3m (i*2+1)) 100 0 100 else q3c C (i:Int) 0 false 0 0 0 0 0
variable{vs:List Value}{ps:Pz}
theorem qsv{g:FuncId}{h:Hp}(i k n m n2:Nat)(gg:Rz)(s:Nat->NSt)(a:NSt){o:Bool}{c:Nat}{Y0:Ext}(hY:Y0=q2v ndX n gg s)(hm:m<n2)(hn:∀j,j<n2->j≠m->j<n)(hi:h[i]?=some (some (@Chunk.mk Y0 o c ps)))(hk:h[k]?=some none)
  (hc:qae prog g vs h (xd k) [(k,ndP a)] []):CallAll prog g vs h λv ms=>∃q:Nat×Nat,v=q2u q/\ms=[(i,@Chunk.mk (q2v ndX n2 (upd gg m q) (upd s m a)) o c ps)]:=by
 subst hY
 refine qln (Y:=λq a=>q2v ndX n2 (upd gg m q) (upd s m a)) (Z:=ndX) i k hi hk qfv (λp q S T a w h1 h2 h3 h4 h5=>qob ndX gg s hm hn p q S T a w h1 h2 h3 h4 h5) (qcz hc) λv ms hR=>?_
 obtain⟨rfl,rfl⟩:=hR
 exact .inr ⟨a,[],q2u,rfl,(λm hm=>by cases hm),(λr=>by simp[den,den2,den1,den0,q24,q2u]),qpw k,λq=>⟨q,rfl,rfl⟩⟩
open Go Go.RowKit Sx
theorem qa6{v u:Value}(h:v=u)(hp:qaq v=true):Re ix v u:=by subst h;exact .plain hp
theorem qd9[ZW]{R R':List Rw}:∀j,j<0->Re1 ix ((rvC R).f j) ((rvC R').f j):=nzj
theorem qgd[ZW]{R:List Rw}:ChunkReLe ix (rvC R) (rvC R):=⟨id,nlr _,qd9⟩
theorem qaz{k:IntKind}{a b:Int}(h:a=b):Value.int k a=.int k b:=by rw[h]
theorem qd2{o:Bool}{m:Nat}{l:List Value}(hl:l.length=n)(hm:m=n):Reads ⟨o,n,[(0,n,.agg ⟨l⟩)]⟩ 0 true m (.agg ⟨l⟩):=by
 subst hl hm;refine⟨Nat.le_of_eq (xj _),_,rfl,rfl,λj hj=>?_⟩;show qa0 _ _=_;rw[qai,if_pos Q4L,xj,Nat.sub_zero];rfl
def qxn(n:Int)(i:Nat):Int:=n / 256^i%256
def beK(n:Int)(w:Nat):Nat->List Int
 | 0=>[]
 | k+1=>beK n w k++[qxn n (w-1-k)]
abbrev be(n:Int)(w:Nat):List Int:=beK n w w
theorem qnc(n:Int)(w:Nat):∀k,(beK n w k).length=k
 | 0=>rfl
 | k+1=>by rw[beK,xR,qnc n w k];rfl
structure BufOK(r:Rw)(bs:List Int):Prop where
 w:r.w=true
 e:r.e=5
 k:r.k=1
 n:r.n=bs.length
 xs:r.xs=bs.map (Value.int .u8)
variable{bs:List Int}
theorem BufOK.grew{r r':Rw}{cs:List Int}(h:BufOK r bs)(hg:Grew (some r) (some r') 5 1 cs.length (cs.map (Value.int .u8))):BufOK r' (bs++cs):=by
 obtain⟨h1,h2,h3⟩:=hg.ty r' rfl;exact⟨h3,h1,h2,by have:=hg.n;show q4a (some r')=_;rw[this,xR];show r.n+_=_;rw[h.n],by have:=hg.xs;show q4x (some r')=_;rw[this,yG];show r.xs++_=_;rw[h.xs]⟩
theorem qzs:∃ei z,prog.info? 5=some ei/\ei.size=1/\ei.bytes<=1000/\ei.zero=some z/\z.cells.size=1:=by
 obtain⟨ei,d,h1,h2,h3⟩:=qak tysOK (t:=5) (K:=λei _=>ei.size=1/\ei.bytes<=1000/\∃z,ei.zero=some z/\z.cells.size=1) ⟨rfl,by decide,_,rfl,rfl⟩;obtain⟨h3,h4,z,h5,h6⟩:=h3;exact⟨ei,z,h1,h3,h4,h5,h6⟩
theorem qvk(n:Int)(m:Nat)(hm:m<=7):IntKind.u8.wrap (n.fdiv (2^sh ((8*m:Nat):Int) IntKind.i64))=qxn n m:=by
 have h1:sh ((8*m:Nat):Int) IntKind.i64=8*m:=by
  unfold sh;rw[yW];show min (8*m) 64=8*m;omega
 have h2:(2:Int)^(8*m)=256^m:=by rw[Int.pow_mul];rfl
 rw[h1,h2,wrap_u8,Int.fdiv_eq_ediv_of_nonneg _ (Int.pow_nonneg Q4P)];rfl
theorem qsw(M:List Int):∀u∈M.map (Value.int .u8),u.oneCell'=true:=λu hu=>by
 obtain⟨e,_,rfl⟩:=xv.1 hu;rfl
variable{K:Value->Mz->Prop}
theorem q8q[ZW]{o:Oper}{st:St}{x y:Operand}{p:Value}{own:Bool}(r:Rw)(R:List Rw)(bs cs:List Int)(i:Nat)(hs:List Nat)(hr:BufOK r bs)
  (ho:o.op=.call ⟨.builtin .append,#[x,y],#[30,30]⟩) (hx:EvTo x st p) (hp:∀ρ,den ρ p=uR (some r.sl)) (hi:st.h[i]?=some (some (@Chunk.mk (rvX (r::R)) own n ps)))
  (hsrc:q8l y st hs cs.length 1 (cs.map (Value.int .u8))) (hl:bs.length+cs.length<=100000) (hK:∀r',BufOK r' (bs++cs)->K (uV (some r'.sl)) [(i,@Chunk.mk (rvX (r'::R)) own n ps)]):N (EffAll prog o st K):=by
 obtain⟨ei,z,h1,h2,h3,h4,h5⟩:=qzs
 have hn:q4a (some r)=bs.length:=hr.n
 have hb:(q4a (some r)+cs.length)*ei.bytes<=100000*1000:=yc (by rw[hn];exact hl) h3
 refine qrk (e:=5) (ei:=ei) (z:=z) (some r) R i cs.length (cs.map (Value.int .u8)) ho hx hp underlying30 h1 h4 (by rw[h5,h2]) Q5M hi (λq hq=>by cases hq;rw[h2];exact⟨hr.e,hr.k,hr.w⟩) hs (by rw[h2];exact hsrc) (qsw cs) (by rw[hn];omega) Q4L λoe' hg=>?_
 rw[h2] at hg
 cases oe' with
 | none=>exact absurd (hg.nil.1 rfl).1 Q4X
 | some r'=>exact hK r' (hr.grew hg)
theorem q4b[ZW](r:Rw)(R:List Rw)(bs:List Int)(hr:BufOK r bs)(n:Int)(hn : -9223372036854775808<=n/\n<=9223372036854775807)(w:Nat)(hw:1<=w/\w<=8)(hl:bs.length<=1000)(i:Nat)(h:Hp)(hi:h[i]?=some (some (rvC (r::R)))):
  CallAll prog 204 [uV (some r.sl),xc n,xc (w:Nat)] h (λv ms=>∃r':Rw,BufOK r' (bs++be n w)/\v=uV (some r'.sl)/\ms=[(i,rvC (r'::R))]):=by
 have key:=qar (G:=tys) (h:=h) (vs:=[uV (some r.sl),.int .i64 n,.int .i64 (w:Nat)]) (λ_:Unit=>True) (λ_=>_) (α:=Rw) (λκ=>BufOK κ (bs++be n w)) (λκ=>uV (some κ.sl)) [⟨i,rvC (r::R),rvC (r::R),rvC (r::R)⟩] (λκ=>[rvC (κ::R)]) (λκ=>[]) [uV (some r.sl),.int .i64 n,.int .i64 (w:Nat)] tysOK q2p func204 Q4N (call204) ⟨hi,xb⟩ Q46 (λκ _=>Q46) Q51 Q41 (λκ _=>trivial) ⟨.quo,.plain rfl,.plain rfl,xb⟩ Opens.same ?_
 .exact Q0X
 rintro⟨⟩ -
 have e0:IntKind.i64.wrap ((w:Int)-1)=(w:Int)-1:=q23 _ Q4L Q4L
 have ek:(w:Int)-1-((0:Nat):Int)=IntKind.i64.wrap ((w:Int)-1):=by rw[e0];omega
 repeat' (refine Ba ?_;first|refine Q2R ?_|fail)
 refine Ba ?_
 refine Bo (α:=Nat×Rw) (λq=>q.1<=w/\BufOK q.2 (bs++beK n w q.1)) (λq=>w-q.1) (λq=>[(0,uV (some q.2.sl)),(7,xc ((w:Int)-1-(q.1:Int)))]) (λq=>[(0,rvC (q.2::R))]) (0,r) [(0,0)] ⟨xr _,by show BufOK r (bs++[]);rw[List.append_nil];exact hr⟩ ?_ ?_
 .exact Q0H
 rintro⟨k,q⟩ ⟨hk,hq⟩
 have hk:k<=w:=hk
 have hq:BufOK q (bs++beK n w k):=hq
 have hql:(bs++beK n w k).length=bs.length+k:=by rw[xR,qnc]
 by_cases hkw:k<w
 .have e8:IntKind.i64.wrap (8*((w:Int)-1-(k:Int)))=((8*(w-1-k):Nat):Int):=by rw[q23 _ Q4L Q4L];omega
  have ev:=qvk n (w-1-k) Q4L;rw[<-e8] at ev;have ek:(w:Int)-1-((k+1:Nat):Int)=IntKind.i64.wrap ((w:Int)-1-(k:Int)-1):=by rw[q23 _ Q4L Q4L];omega
  refine Q0U ?_;refine q8q q R (bs++beK n w k) [_] 0 [_] hq rfl rfl (λρ=>qfh _ ρ) Q4N (qll [_] Q40 rfl Q4N (qd2 Q4N Q4N) rfl) (by rw[hql];show _+1<=_;omega) λq' hq'=>?_
  rw[ev,List.append_assoc] at hq';refine Q0U ?_;refine Bk (α:=Nat×Rw) (k+1,q') [(0,0)] ⟨⟨hkw,hq'⟩,by show w-(k+1)<w-k;omega⟩ ?_;exact Q0H
 .obtain rfl:k=w:=by omega
  repeat' (refine Ba ?_;first|refine Q2R ?_|refine Q3n ?_|refine Bh ?_|refine Bj q ⟨hq,?_⟩|refine Bb (.one .quo) ?_|refine Bb Q4n ?_|refine Q3w ?_|exact Bd|fail)
abbrev ja3(n:Int):Bool:=IntKind.u32.wrap ((BitVec.ofInt IntKind.u32.bits n &&& BitVec.ofInt IntKind.u32.bits 1).toNat:Int)==1
abbrev q4f(a b:Int):Int:=IntKind.u32.wrap ((BitVec.ofInt IntKind.u32.bits a ^^^ BitVec.ofInt IntKind.u32.bits b).toNat:Int)
abbrev q40(n k:Int):Int:=n.fdiv (2^sh k IntKind.u32)
def jaa(n:Int):Int:=if ja3 n=true then q4f (q40 n 1) 3988292384 else q40 n 1
def q6a(n:Int):Nat->Int
 | 0=>n
 | k+1=>jaa (q6a n k)
def q71(i:Nat):Int:=q6a (IntKind.u32.wrap (i:Int)) 8
structure TabOK(oe:Option Rw)(l:List Int):Prop where
 n:q4a oe=l.length
 xs:q4x oe=l.map (Value.int .u32)
 ty:∀r,oe=some r->r.e=159/\r.k=1/\r.w=true
theorem TabOK.nil:TabOK none []:=⟨rfl,rfl,(λr h=>by cases h)⟩
theorem TabOK.grew{oe oe':Option Rw}{M M2:List Int}(h:TabOK oe M)(hg:Grew oe oe' 159 1 M2.length (M2.map (Value.int .u32))):TabOK oe' (M++M2):=
 ⟨by rw[hg.n,h.n,xR],by rw[hg.xs,h.xs,yG],hg.ty⟩
theorem qvl:∃ei z,prog.info? 159=some ei/\ei.size=1/\ei.bytes<=1000/\ei.zero=some z/\z.cells.size=1:=by
 obtain⟨ei,d,h1,h2,h3⟩:=qak tysOK (t:=159) (K:=λei _=>ei.size=1/\ei.bytes<=1000/\∃z,ei.zero=some z/\z.cells.size=1) ⟨rfl,by decide,_,rfl,rfl⟩;obtain⟨h3,h4,z,h5,h6⟩:=h3;exact⟨ei,z,h1,h3,h4,h5,h6⟩
theorem qvm(M:List Int):∀u∈M.map (Value.int .u32),u.oneCell'=true:=λu hu=>by
 obtain⟨e,_,rfl⟩:=xv.1 hu;rfl
theorem jbp[ZW]{o:Oper}{st:St}{x y:Operand}{p:Value}{own:Bool}(oe:Option Rw)(R:List Rw)(M M2:List Int)(i:Nat)(hs:List Nat)(hoe:TabOK oe M)
  (ho:o.op=.call ⟨.builtin .append,#[x,y],#[325,325]⟩) (hx:EvTo x st p) (hp:∀ρ,den ρ p=uR (rowO oe)) (hi:st.h[i]?=some (some (@Chunk.mk (rvX (rowL oe R)) own n ps)))
  (hsrc:q8l y st hs M2.length 1 (M2.map (Value.int .u32))) (hl:M.length+M2.length<=100000) (hK:∀oe',TabOK oe' (M++M2)->K (uV (rowO oe')) [(i,@Chunk.mk (rvX (rowL oe' R)) own n ps)]):N (EffAll prog o st K):=by
 obtain⟨ei,z,h1,h2,h3,h4,h5⟩:=qvl
 have hb:(q4a oe+M2.length)*ei.bytes<=100000*1000:=yc (by rw[hoe.n];exact hl) h3
 exact qrk (e:=159) (ei:=ei) (z:=z) oe R i M2.length (M2.map (Value.int .u32)) ho hx hp underlying325 h1 h4 (by rw[h5,h2]) Q5M hi (λr hr=>by rw[h2];exact hoe.ty r hr) hs (by rw[h2];exact hsrc) (qvm M2) (by rw[hoe.n];omega) Q4L λoe' hg=>hK oe' (hoe.grew (by rw[h2] at hg;exact hg))
def q41(k:Nat):List Int:=(List.range k).map q71
theorem qj4(k:Nat):(q41 k).length=k:=by unfold q41;rw[yz,List.length_range]
theorem q1z[ZW](R:List Rw)(i:Nat)(h:Hp)(hi:h[i]?=some (some (rvC R))):
  CallAll prog 240 [] h (λv ms=>∃r:Rw,TabOK (some r) (q41 256)/\v=uV (some r.sl)/\ms=[(i,rvC (r::R))]):=by
 have key:=qar (G:=tys) (h:=h) (vs:=[]) (λ_:Unit=>True) (λ_=>_) (α:=Rw) (λκ=>TabOK (some κ) (q41 256)) (λκ=>uV (some κ.sl)) [⟨i,rvC R,rvC R,rvC R⟩] (λκ=>[rvC (κ::R)]) (λκ=>[]) [] tysOK q2p func240 Q4N (call240) ⟨hi,xb⟩ Q46 (λκ _=>Q46) Q51 Q41 (λκ _=>trivial) xb Opens.same ?_
 .exact Q0X
 rintro⟨⟩ -
 repeat' (refine Ba ?_;first|refine Q2R ?_|refine Q3f ?_|refine Q3n ?_|fail)
 refine Ba ?_
 refine Bo (α:=Nat×Option Rw) (λq=>q.1<=256/\TabOK q.2 (q41 q.1)) (λq=>256-q.1) (λq=>[(1,uV (rowO q.2)),(5,xc (q.1:Int))]) (λq=>[(0,rvC (rowL q.2 R))]) (0,none) [(0,0)] ⟨by decide,TabOK.nil⟩ ?_ ?_
 .exact Q0A
 rintro⟨k,oe⟩ ⟨hk,hoe⟩
 have hk:k<=256:=hk
 have hoe:TabOK oe (q41 k):=hoe
 by_cases hkl:k<256
 .refine Q0f ?_;refine Br (α:=Nat) (λm=>m<=8) (λm=>8-m) (λm=>[(3,.int .u32 (q6a (IntKind.u32.wrap (k:Int)) m)),(10,xc (m:Int))]) (λm=>[]) 0 Q4P ?_ ?_
  .exact Q16
  intro m hm;have hm:m<=8:=hm;by_cases hm8:m<8
  .generalize hx:q6a (IntKind.u32.wrap (k:Int)) m=x;have em:IntKind.i64.wrap ((m:Int)+1)=((m+1:Nat):Int):=by rw[q23 _ Q4L Q4L];rfl
   by_cases ho:ja3 x=true
   .have es:q4f (q40 x 1) 3988292384=q6a (IntKind.u32.wrap (k:Int)) (m+1):=by rw[q6a,hx,jaa,if_pos ho]
    exact Q0m
   .have es:q40 x 1=q6a (IntKind.u32.wrap (k:Int)) (m+1):=by rw[q6a,hx,jaa,if_neg ho]
    exact Q0m
  .obtain rfl:m=8:=by omega
   have ek:((k+1:Nat):Int)=IntKind.i64.wrap ((k:Int)+1):=by rw[q23 _ Q4L Q4L];rfl
   refine Q0f ?_;refine jbp oe R (q41 k) [_] 0 [_] hoe rfl rfl (λρ=>qfh _ ρ) Q4N (qll [_] Q40 rfl Q4N (qd2 Q4N Q4N) rfl) (by rw[qj4];show _+1<=_;omega) λoe' hoe'=>?_
   have hoe2:TabOK oe' (q41 (k+1)):=by
    unfold q41;rw[List.range_succ,yG];exact hoe'
   refine Q0f ?_;refine Bk (α:=Nat×Option Rw) (k+1,oe') [(0,0)] ⟨⟨hkl,hoe2⟩,by show 256-(k+1)<256-k;omega⟩ ?_;exact Q0A
 .obtain rfl:k=256:=by omega
  cases oe with
  | none=>have:=hoe.n;rw[qj4] at this;exact absurd this Q4P
  | some r=>
   repeat' (refine Ba ?_;first|refine Q2R ?_|refine Q3n ?_|refine Bh ?_|refine Bj r ⟨hoe,?_⟩|refine Bb (.one .quo) ?_|refine Bb Q4n ?_|refine Q3w ?_|exact Bd|fail)
abbrev q42(a b:Int):Int:=IntKind.u8.wrap ((BitVec.ofInt IntKind.u8.bits a ^^^ BitVec.ofInt IntKind.u8.bits b).toNat:Int)
theorem qzt(a b:Int):0<=q42 a b/\q42 a b<256:=by
 unfold q42;rw[wrap_u8];omega
def qsx(s c:Int):Int:=q4f (q40 s 8) (q71 (q42 (IntKind.u8.wrap s) c).toNat)
def sumK(bs:List Int)(k:Nat):Int:=(bs.take k).foldl qsx 4294967295
def q65(bs:List Int):Int:=q4f 4294967295 (sumK bs bs.length)
theorem N.notU{x:Int}{K:Value->Prop}(h:K (.int .u32 (q4f 4294967295 x))):N (UnN prog .xor (.int .u32 x) K):=N.mk ⟨.int .u32 (q4f 4294967295 x),⟨rfl,rfl,λw=>by go_simp;rfl⟩,h⟩
theorem qsy{c:Int}(h:bs[k]?=some c):sumK bs (k+1)=qsx (sumK bs k) c:=by
 unfold sumK;rw[List.take_add_one,h,List.foldl_append];rfl
theorem jab[ZW](rt rb:Rw)(R:List Rw)(bs:List Int)(hT:TabOK (some rt) (q41 256))(hB:BufOK rb bs)(hl:bs.length<=1000)(ht:rt∈R)(hb:rb∈R)(i:Nat)(h:Hp)(hi:h[i]?=some (some (rvC R))):
  qae prog 239 [uV (some rt.sl),uV (some rb.sl)] h (.int .u32 (q65 bs)) [(i,rvC R)] []:=by
 refine qaw (G:=tys) (λ_:Unit=>True) (λ_=>_) [⟨i,rvC R,rvC R,rvC R⟩] [] [uV (some rt.sl),uV (some rb.sl)] tysOK q2p func239 Q4N (call239) ⟨hi,xb⟩ Q46 Q51 Q41 xb ⟨.quo,.quo,xb⟩ Opens.same ?_
 rintro⟨⟩ -
 have hbn:=hB.n
 have htn:rt.n=256:=by have:=hT.n;rw[qj4] at this;exact this
 have hTx:rt.xs=(q41 256).map (Value.int .u32):=hT.xs
 have hlb:((uN (some rb.sl):Nat):Int)=((bs.length:Nat):Int):=by show((rb.n:Nat):Int)=_;rw[hbn]
 have hlt:((uN (some rt.sl):Nat):Int)=256:=by show((rt.n:Nat):Int)=_;rw[htn];rfl
 repeat' (refine Ba ?_;first|refine Q2R ?_|refine Q3t ?_|fail)
 refine Ba ?_
 refine Bo (α:=Nat) (λk=>k<=bs.length) (λk=>bs.length-k) (λk=>[(5,.int .u32 (sumK bs k)),(11,xc (k:Int))]) (λk=>[]) 0 [(0,0)] (xr _) ?_ ?_
 .exact Q0C
 intro k hk
 have hk:k<=bs.length:=hk
 by_cases hkl:k<bs.length
 .obtain⟨c,hc⟩:∃c,bs[k]?=some c:=⟨_,xp hkl⟩;have hs:=qsy hc;generalize sumK bs k=s0 at hs;obtain⟨x0,x1⟩:=qzt (IntKind.u8.wrap s0) c;have es:sumK bs (k+1)=q4f (q40 s0 8) (q71 (q42 (IntKind.u8.wrap s0) c).toNat):=hs;have ex:IntKind.i64.wrap (q42 (IntKind.u8.wrap s0) c)=(q42 (IntKind.u8.wrap s0) c):=q23 _ Q4L Q4L;have hxe:(q41 256)[(q42 (IntKind.u8.wrap s0) c).toNat]?=some (q71 (q42 (IntKind.u8.wrap s0) c).toNat):=by
   unfold q41;rw[xQ,List.getElem?_range Q4L];rfl
  have ek:((k+1:Nat):Int)=IntKind.i64.wrap ((k:Int)+1):=by rw[q23 _ Q4L Q4L];rfl
  repeat' (refine Ba ?_;first|refine Q2R ?_|refine Be (xg (show _<_ by rw[hlt,ex];exact x1)) ?_|refine N.op (qci rfl rfl ⟨_,rfl,_,underlying325⟩) ?_|refine N.op (qrj (sz:=1) (g:=rb.o+k) tysOK rfl rfl (λρ=>by rw[qfh];rfl) rfl (by exact rfl) Q4L (by show((k:Nat):Int)<((rb.n:Nat):Int);omega) (by show rb.o+((k:Nat):Int).toNat*1=_;rw[yW,x6])) ?_|refine N.op (qn9 (i:=0) rb (v:=.int .u8 c) k tysOK rfl rfl rfl Q4N hb (by exact rfl) rfl (by rw[hB.xs,xQ,hc];rfl)) ?_|refine N.op (qrj (sz:=1) (g:=rt.o+(q42 (IntKind.u8.wrap s0) c).toNat) tysOK rfl rfl (λρ=>by rw[qfh];rfl) rfl (by exact rfl) (by rw[ex];omega) (by rw[ex];show(q42 (IntKind.u8.wrap s0) c)<((rt.n:Nat):Int);omega) (by rw[ex,x6])) ?_|refine N.op (qn9 (i:=0) rt (v:=.int .u32 (q71 (q42 (IntKind.u8.wrap s0) c).toNat)) (q42 (IntKind.u8.wrap s0) c).toNat tysOK rfl rfl rfl Q4N ht (by exact rfl) rfl (by rw[hTx,xQ,hxe];rfl)) ?_|refine Q3f ?_|fail)
  refine Ba ?_;refine Bk (α:=Nat) (k+1) [(0,0)] ⟨hkl,by show bs.length-(k+1)<bs.length-k;omega⟩ ?_;exact Q0C
 .obtain rfl:k=bs.length:=by omega
  repeat' (refine Ba ?_;first|refine Q2R ?_|refine N.notU ?_|refine Q3n ?_|refine Bh ?_|refine Q3J ?_|refine Bb Q4n ?_|refine Q3w ?_|exact Bd|fail)
theorem jbq[ZW](rb:Rw)(R:List Rw)(bs:List Int)(hB:BufOK rb bs)(hl:bs.length<=1000)(hb:rb∈R)(i:Nat)(h:Hp)(hi:h[i]?=some (some (rvC R))):
  CallAll prog 205 [uV (some rb.sl)] h (λv ms=>v=.int .u32 (q65 bs)/\ms=[(i,rvC R)]):=by
 have hil:=(xe.1 hi).1
 have key:=qar (G:=tys) (h:=h) (vs:=[uV (some rb.sl)]) (λ_:Unit=>True) (λ_=>_) (α:=Rw) (λκ=>True) (λκ=>.int .u32 (q65 bs)) [⟨i,rvC R,rvC R,rvC R⟩] (λκ=>[rvC (κ::R)]) (λκ=>[]) [uV (some rb.sl)] tysOK q2p func205 Q4N (call205) ⟨hi,xb⟩ Q46 (λκ _=>Q46) Q51 Q41 (λκ _=>trivial) ⟨.quo,xb⟩ Opens.same ?_
 .refine CallAll.soft key λv ms hR=>?_
  obtain⟨κ,_,rfl,rfl⟩:=hR;refine⟨i,rvX (κ::R),rvX R,true,0,[],[(i,rvC R)],?_,qye (List.sublist_cons_self ..),?_,rfl,rfl⟩
  .show(h.set i _)[i]?=_;rw[xq hil]
  .show(h.set i _).set i _=h.set i _;rw[yn]
 rintro⟨⟩ -
 repeat' (refine Ba ?_;first|refine Q2R ?_|fail)
 refine Ba ?_
 refine Bg (q1z R 0 _ Q4N) λv ms hR=>?_
 obtain⟨rt,hT,rfl,rfl⟩:=hR
 repeat' (refine Ba ?_;first|refine Q2R ?_|refine Bc (jab rt rb (rt::R) bs hT hB hl (yo ..) (ya _ hb) 0 _ Q4N) ?_|refine Bh ?_|refine Bj rt ⟨xb,?_⟩|refine Q3J ?_|refine Bb Q4n ?_|refine Q3w ?_|exact Bd|fail)
theorem q10(n m:Int)(w:World):xa 238 #[xc n,xc m] w (.bool (decide (0<=n/\n<=m))):=by
 refine qah (G:=tys) w tysOK q2p func238 Q4N Q4O Q4M ?_;exact Q0g
theorem q72(n m:Int)(h:Hp):qae prog 238 [xc n,xc m] h (.bool (decide (0<=n/\n<=m))) [] []:=qan rfl rfl (call238 _) (q10 n m)
theorem qvn(n:Int)(w:World):xa 237 #[xc n] w (.bool (decide (0<=n/\n<64))):=by
 refine qah (G:=tys) w tysOK q2p func237 Q4N Q4O Q4M ?_;exact Q0g
theorem qj5(n:Int)(h:Hp):qae prog 237 [xc n] h (.bool (decide (0<=n/\n<64))) [] []:=qan rfl rfl (call237 _) (qvn n)
theorem jbr{v:Value}{b:Bool}{p:Prop}[Decidable p](h:b=true↔p):Value.tuple #[v,.bool b]=.tuple #[v,.bool (decide p)]:=by
 by_cases hp:p
 .rw[h.2 hp,xg hp]
 .rw[xl hp];cases b with
  | false=>rfl
  | true=>exact absurd (h.1 rfl) hp
abbrev frF(k s b q st ds t1 t2 wh wn x y a c d:Int):Value:=.agg ⟨[xc k,xc s,xc b,xc q,xc st,xc ds,xc t1,xc t2,xc wh,xc wn,xc x,xc y,xc a,xc c,xc d]⟩
theorem qzu(s b q st ds t1 t2 wh wn x y a c d:Int)(w:World):xa 236 #[frF 1 s b q st ds t1 t2 wh wn x y a c d] w (.tuple #[frF 1 s b q st ds t1 t2 wh wn x y a c d,.bool (decide (True))]):=Q0h
theorem qzv(s b q st ds t1 t2 wh wn x y a c d:Int)(w:World):xa 236 #[frF 5 s b q st ds t1 t2 wh wn x y a c d] w (.tuple #[frF 5 s b q st ds t1 t2 wh wn 0 0 0 0 0,.bool (decide (q29 x y a c d))]):=Q0h
theorem qsz(x y:Operand):BinIs prog .eql 65 x y (.agg ⟨[xc 0,xc 0,xc 0,xc 0,xc 0]⟩) (.agg ⟨[xc 0,xc 0,xc 0,xc 0,xc 0]⟩) (.bool true):=⟨rfl,rfl,rfl,λw=>by go_simp⟩
theorem qzw(s b q st:Int)(h:Hp):qae prog 236 [frF 1 s b q st 0 0 0 0 0 0 0 0 0 0] h (.tuple #[frF 1 s b q st 0 0 0 0 0 0 0 0 0 0,.bool true]) [] []:=qan rfl rfl (call236 _) λw=>(qzu s b q st 0 0 0 0 0 0 0 0 0 0 w).mono λe w' ⟨he,hB⟩=>⟨by rw[he,xg (show True from xb)],hB⟩
theorem qvo(s b q st:Int)(hs:0<=s/\s<64)(hb:0<=b/\b<=65535)(hq:0<=q/\q<=65535)(hst:0<=st/\st<=1000000)(w:World):xa 203 #[frF 1 s b q st 0 0 0 0 0 0 0 0 0 0] w (.bool true):=by
 refine Q1s ?_;repeat' (refine Ba ?_;first|refine Q2R ?_|refine Q35 ?_|refine Bc (qzw s b q st _) ?_|refine Q3v ?_|fail)
 all_goals rfl
theorem qzx(s b q st:Int)(hs:0<=s/\s<64)(hb:0<=b/\b<=65535)(hq:0<=q/\q<=65535)(hst:0<=st/\st<=1000000)(h:Hp):qae prog 203 [frF 1 s b q st 0 0 0 0 0 0 0 0 0 0] h (.bool true) [] []:=qan rfl rfl (call203 _) (qvo s b q st hs hb hq hst)
theorem qzy(s b q st:Int)(x y a c d:Int)(hm:q29 x y a c d)(h:Hp):qae prog 236 [frF 5 s b q st 0 0 0 0 0 x y a c d] h (.tuple #[frF 5 s b q st 0 0 0 0 0 0 0 0 0 0,.bool true]) [] []:=qan rfl rfl (call236 _) λw=>(qzv s b q st 0 0 0 0 0 x y a c d w).mono λe w' ⟨he,hB⟩=>⟨by rw[he,xg (show q29 x y a c d from hm)],hB⟩
theorem qvp(s b q st:Int)(x y a c d:Int)(hs:0<=s/\s<64)(hb:0<=b/\b<=65535)(hq:0<=q/\q<=65535)(hst:0<=st/\st<=1000000)(hm:q29 x y a c d)(w:World):xa 203 #[frF 5 s b q st 0 0 0 0 0 x y a c d] w (.bool true):=by
 refine Q1s ?_;repeat' (refine Ba ?_;first|refine Q2R ?_|refine Q35 ?_|refine Bc (qzy s b q st x y a c d hm _) ?_|refine Q3v ?_|fail)
 all_goals rfl
theorem qzz(s b q st:Int)(x y a c d:Int)(hs:0<=s/\s<64)(hb:0<=b/\b<=65535)(hq:0<=q/\q<=65535)(hst:0<=st/\st<=1000000)(hm:q29 x y a c d)(h:Hp):qae prog 203 [frF 5 s b q st 0 0 0 0 0 x y a c d] h (.bool true) [] []:=qan rfl rfl (call203 _) (qvp s b q st x y a c d hs hb hq hst hm)
theorem qvq:∃ei,prog.info? 5=some ei/\ei.size=1/\ei.zero=some (.int .u8 0):=by
 obtain⟨ei,d,h1,h2,h3⟩:=qak tysOK (t:=5) (K:=λei _=>ei.size=1/\ei.zero=some (.int .u8 0)) ⟨rfl,rfl⟩;exact⟨ei,h1,h3⟩
def q73(k s b q st ds t1 t2 wh wn x y a c d:Int):List Int:=[97,108,105,49]++be k 1++be s 1++be ds 1++be wh 1++be b 2++be q 2++be st 8++be t1 8++be t2 8++be wn 8++be x 4++be y 4++be a 8++be c 8++be d 8
def encB(k s b q st ds t1 t2 wh wn x y a c d:Int):List Int:=q73 k s b q st ds t1 t2 wh wn x y a c d++be (IntKind.i64.wrap (q65 (q73 k s b q st ds t1 t2 wh wn x y a c d))) 4
theorem qb9(n:Int)(w:Nat):(be n w).length=w:=qnc n w w
def Fi(n:Int):Prop:=-9223372036854775808<=n/\n<=9223372036854775807
theorem qvr(k s b q st ds t1 t2 wh wn x y a c d:Int)(hk:Fi k)(hs:Fi s)(hb:Fi b)(hq:Fi q)(hst:Fi st)(hds:Fi ds)(ht1:Fi t1)(ht2:Fi t2)(hwh:Fi wh)(hwn:Fi wn)(hx:Fi x)(hy:Fi y)(ha:Fi a)(hc:Fi c)(hd:Fi d)(hM:∀h,qae prog 203 [frF k s b q st ds t1 t2 wh wn x y a c d] h (.bool true) [] [])(W:World)(hW:0<W.heap.size):
  Calls prog 165 #[frF k s b q st ds t1 t2 wh wn x y a c d] W λe w'=>∃r:Rw,BufOK r (encB k s b q st ds t1 t2 wh wn x y a c d)/\e=.returned (den (λ_=>(0,0)) (.tuple #[uV (some r.sl),xc 0]))/\Below W.heap.size W w'/\∀q∈[r],RwAt w' q/\W.heap.size<=q.b:=by
 letI:ZW:=⟨some W⟩
 refine qrl (vs:=[frF k s b q st ds t1 t2 wh wn x y a c d]) W rfl (fun(r:Rw)=>.tuple #[uV (some r.sl),xc 0]) (λr=>[r]) (λr=>BufOK r (encB k s b q st ds t1 t2 wh wn x y a c d)) tysOK q2p func165 Q4N hW rfl (fun(κ:Rw) r r'=>by
  have e:∀r,den2 r (uV (some κ.sl))=uR (some κ.sl):=λr=>qjh (some κ.sl) r
  have e2:∀r,den r (.tuple #[uV (some κ.sl),xc 0])=.tuple #[uR (some κ.sl),xc 0]:=λr=>by
   show Value.tuple (#[uV (some κ.sl),xc 0].map (den2 r))=_;simp only[yu,xi,xZ,e];rfl
  rw[e2,e2]) ?_
 repeat' (refine Ba ?_;first|refine Q2T ?_|refine Q2V ?_|refine Bc (hM _) ?_|refine Q37 ?_|fail)
 refine Ba ?_
 refine N.altP ?_
 obtain⟨ei,h1,h2,h3⟩:=qvq
 refine qpk (ei:=ei) (z:=.int .u8 0) (out:=[.int .u8 97,.int .u8 108,.int .u8 105,.int .u8 49]) (R:=[]) (i:=0) rfl (by exact⟨_,_,rfl,⟨rfl,rfl⟩,_,_,rfl,⟨rfl,rfl⟩,_,_,rfl,⟨rfl,rfl⟩,_,_,rfl,⟨rfl,rfl⟩,rfl⟩) underlying30 h1 h3 rfl (by rw[h2];rfl) Q5M Q5M (by rw[h2];rfl) (by rw[h2];rfl) rfl Q5M Q4N λbb=>?_
 have hr0:BufOK ⟨true,5,ei.size,bb,0,4,4,[.int .u8 97,.int .u8 108,.int .u8 105,.int .u8 49]⟩ [97,108,105,49]:=⟨rfl,rfl,h2,rfl,rfl⟩
 generalize hg0:(⟨true,5,ei.size,bb,0,4,4,[.int .u8 97,.int .u8 108,.int .u8 105,.int .u8 49]⟩:Rw)=r0 at hr0
 have hg1:(some ⟨bb,0,4,4,none⟩:Option Sl)=some r0.sl:=by rw[<-hg0]
 rw[hg1]
 repeat' (refine Ba ?_;first|refine Q2T ?_|refine Q2V ?_|refine N.op (qyd (i:=0) r0 rfl rfl underlying30 underlying5 hr0.w Q40 Q4N) ?_|refine Q3o ?_|refine Q35 ?_|fail)
 refine Ba ?_
 refine Bg (q4b r0 [] _ hr0 k hk 1 Q4P Q4U 0 _ Q4N) λv ms hR=>?_
 obtain⟨r1,hr1,rfl,rfl⟩:=hR
 repeat' (refine Ba ?_;first|refine Q2T ?_|refine Q2V ?_|refine Q30 ?_|fail)
 refine Ba ?_
 refine Bg (q4b r1 [] _ hr1 s hs 1 Q4P Q4U 0 _ Q4N) λv ms hR=>?_
 obtain⟨r2,hr2,rfl,rfl⟩:=hR
 repeat' (refine Ba ?_;first|refine Q2T ?_|refine Q2V ?_|refine Q30 ?_|fail)
 refine Ba ?_
 refine Bg (q4b r2 [] _ hr2 ds hds 1 Q4P Q4U 0 _ Q4N) λv ms hR=>?_
 obtain⟨r3,hr3,rfl,rfl⟩:=hR
 repeat' (refine Ba ?_;first|refine Q2T ?_|refine Q2V ?_|refine Q30 ?_|fail)
 refine Ba ?_
 refine Bg (q4b r3 [] _ hr3 wh hwh 1 Q4P Q4U 0 _ Q4N) λv ms hR=>?_
 obtain⟨r4,hr4,rfl,rfl⟩:=hR
 repeat' (refine Ba ?_;first|refine Q2T ?_|refine Q2V ?_|refine Q30 ?_|fail)
 refine Ba ?_
 refine N.altP ?_
 refine Bp [0,1,2,4,5] [(3,[]),(6,[7])] Q4Q ?_
 repeat' (refine Ba ?_;first|refine Q2R ?_|refine Q3o ?_|refine Q35 ?_|fail)
 refine Ba ?_
 refine qbq [0] _ Q4Z (λh₂ hh=>q4b r4 [] _ hr4 b hb 2 Q4P Q4U 0 h₂ Q4e) λv ms hM_=>?_
 obtain⟨r5,hr5,rfl,rfl⟩:=hM_
 refine⟨by simp,?_⟩
 repeat' (refine Ba ?_;first|refine Q2R ?_|refine Q3o ?_|refine Q35 ?_|fail)
 refine Ba ?_
 refine qbq [0] _ Q4Z (λh₂ hh=>q4b r5 [] _ hr5 q hq 2 Q4P Q4U 0 h₂ Q4e) λv ms hM_=>?_
 obtain⟨r6,hr6,rfl,rfl⟩:=hM_
 refine⟨by simp,?_⟩
 repeat' (refine Ba ?_;first|refine Q2R ?_|refine Q3o ?_|refine Q35 ?_|fail)
 repeat' (refine Ba ?_;first|refine Q2T ?_|refine Q2V ?_|refine Q30 ?_|fail)
 refine Ba ?_
 refine Bg (q4b r6 [] _ hr6 st hst 8 Q4P Q4U 0 _ Q4N) λv ms hR=>?_
 obtain⟨r7,hr7,rfl,rfl⟩:=hR
 repeat' (refine Ba ?_;first|refine Q2T ?_|refine Q2V ?_|refine Q30 ?_|fail)
 refine Ba ?_
 refine Bg (q4b r7 [] _ hr7 t1 ht1 8 Q4P Q4U 0 _ Q4N) λv ms hR=>?_
 obtain⟨r8,hr8,rfl,rfl⟩:=hR
 repeat' (refine Ba ?_;first|refine Q2T ?_|refine Q2V ?_|refine Q30 ?_|fail)
 refine Ba ?_
 refine Bg (q4b r8 [] _ hr8 t2 ht2 8 Q4P Q4U 0 _ Q4N) λv ms hR=>?_
 obtain⟨r9,hr9,rfl,rfl⟩:=hR
 repeat' (refine Ba ?_;first|refine Q2T ?_|refine Q2V ?_|refine Q30 ?_|fail)
 refine Ba ?_
 refine Bg (q4b r9 [] _ hr9 wn hwn 8 Q4P Q4U 0 _ Q4N) λv ms hR=>?_
 obtain⟨r10,hr10,rfl,rfl⟩:=hR
 repeat' (refine Ba ?_;first|refine Q2T ?_|refine Q2V ?_|refine Q30 ?_|fail)
 refine Ba ?_
 refine N.altP ?_
 refine Bp [0,1,2,3,4,6,7,8,9] [(5,[]),(10,[11])] Q4Q ?_
 repeat' (refine Ba ?_;first|refine Q2R ?_|refine Q3o ?_|refine Q35 ?_|fail)
 refine Ba ?_
 refine qbq [0] _ Q4Z (λh₂ hh=>q4b r10 [] _ hr10 x hx 4 Q4P Q4U 0 h₂ Q4e) λv ms hM_=>?_
 obtain⟨r11,hr11,rfl,rfl⟩:=hM_
 refine⟨by simp,?_⟩
 repeat' (refine Ba ?_;first|refine Q2R ?_|refine Q3o ?_|refine Q35 ?_|fail)
 refine Ba ?_
 refine qbq [0] _ Q4Z (λh₂ hh=>q4b r11 [] _ hr11 y hy 4 Q4P Q4U 0 h₂ Q4e) λv ms hM_=>?_
 obtain⟨r12,hr12,rfl,rfl⟩:=hM_
 refine⟨by simp,?_⟩
 repeat' (refine Ba ?_;first|refine Q2R ?_|refine Q3o ?_|refine Q35 ?_|fail)
 repeat' (refine Ba ?_;first|refine Q2T ?_|refine Q2V ?_|refine Q38 ?_|refine Q31 ?_|fail)
 refine Ba ?_
 refine Bg (q4b r12 [] _ hr12 a ha 8 Q4P Q4U 0 _ Q4N) λv ms hR=>?_
 obtain⟨r13,hr13,rfl,rfl⟩:=hR
 repeat' (refine Ba ?_;first|refine Q2T ?_|refine Q2V ?_|refine Q38 ?_|refine Q31 ?_|fail)
 refine Ba ?_
 refine Bg (q4b r13 [] _ hr13 c hc 8 Q4P Q4U 0 _ Q4N) λv ms hR=>?_
 obtain⟨r14,hr14,rfl,rfl⟩:=hR
 repeat' (refine Ba ?_;first|refine Q2T ?_|refine Q2V ?_|refine Q38 ?_|refine Q31 ?_|fail)
 refine Ba ?_
 refine Bg (q4b r14 [] _ hr14 d hd 8 Q4P Q4U 0 _ Q4N) λv ms hR=>?_
 obtain⟨r15,hr15,rfl,rfl⟩:=hR
 repeat' (refine Ba ?_;first|refine Q2T ?_|refine Q2V ?_|refine Q38 ?_|refine Q31 ?_|fail)
 refine Ba ?_
 refine Bg (jbq r15 [r15] _ hr15 Q4U Q40 0 _ Q4N) λv ms hR=>?_
 obtain⟨rfl,rfl⟩:=hR
 repeat' (refine Ba ?_;first|refine Q2T ?_|refine Q2V ?_|fail)
 have hsum:Fi (IntKind.i64.wrap (q65 (q73 k s b q st ds t1 t2 wh wn x y a c d))):=by
  unfold Fi;rw[yh];omega
 refine Ba ?_
 refine Bg (q4b r15 [] _ hr15 (IntKind.i64.wrap (q65 (q73 k s b q st ds t1 t2 wh wn x y a c d))) hsum 4 Q4P Q4U 0 _ Q4N) λv ms hR=>?_
 obtain⟨r16,hr16,rfl,rfl⟩:=hR
 repeat' (refine Ba ?_;first|refine Q2T ?_|refine Q2V ?_|fail)
 refine Ba ?_
 exact N.mk ⟨r16,hr16,rfl,rfl⟩
open Go Go.RowKit Sx
theorem qvs{h:Hp}{i:Nat}{c:Chunk}(hi:h[i]?=some (some c)):h.set i (some c)=h:=Q1F
theorem q11{w:World}{B g c:Nat}(h:w.ownsRow B 5 1 (.slice (some ⟨g,0,none⟩) bs.length c) bs.length (bs.map (Value.int .u8))):ByAt w ⟨g,c,bs⟩:=by
 refine⟨(World.ownsRow.lt h g rfl).2,λj hj=>?_,λj hj=>World.ownsRow.frozenAt h j⟩;have hj:j<bs.length:=hj;rw[World.ownsRow.cellAt h j Q4L];simp[xH,hj]
abbrev mailV(to_:Int)(u:Option Sl)(at_ tr:Int)(be:Bool):Value:=.agg ⟨[xc to_,uV u,xc at_,xc tr,.bool be]⟩
abbrev q6u(to_:Int)(u:Option Sl)(at_ tr:Int)(be:Bool):Value:=.agg ⟨[xc to_,uR u,xc at_,xc tr,.bool be]⟩
theorem qhw(to_:Int)(u:Option Sl)(at_ tr:Int)(be:Bool)(ρ:Rz):den ρ (mailV to_ u at_ tr be)=q6u to_ u at_ tr be:=by
 show Value.agg (#[xc to_,uV u,xc at_,xc tr,.bool be].map (den1 ρ))=_;have e:=qrg u ρ;simp only[yu,xi,xZ];rw[e];rfl
theorem qoz(to_:Int)(u:Option Sl)(at_ tr:Int)(be:Bool):Re2 ix (mailV to_ u at_ tr be) (mailV to_ u at_ tr be):=.agg ⟨.plain rfl,qrh u,.plain rfl,.plain rfl,.plain rfl,xb⟩
theorem q74(W:World)(F:List By)(u:Option Sl)(bs:List Int)(hs:Src W F u bs)(hm:bs.length<=1048576)(to_ at_ tr:Int)(be:Bool)(i:Nat)(h:Hp)(hi:h[i]?=some (some (q2q W F))):
  CallAll prog 178 [mailV to_ u at_ tr be] h λv ms=>∃u' F',Made F bs u' F'/\v=mailV to_ u' at_ tr be/\ms=[(i,q2q W F')]:=λX ρ w xs H hx=>by
 obtain⟨S,E⟩:=H.ext
 have M:MemOK W F (ρ i) (S i) w:=E.inv i _ hi
 have hb:=M.src hs
 match xs,hx with
 | [x],hx=>
  obtain rfl:q6u to_ u at_ tr be=x:=by have:=hx.1.self;rwa[qhw] at this
  refine .inr ⟨call178 _ w,?_⟩;cases u with
  | none=>
   obtain rfl:bs=[]:=yv.1 hb.1;refine(qya to_ at_ tr be w).mono ?_;rintro e w' ⟨rfl,hB⟩;refine⟨_,rfl,mailV to_ none at_ tr be,_,ρ,⟨none,F,.nil rfl,rfl,rfl⟩,AgreeOn.refl _ _,?_,λr _=>qhw _ _ _ _ _ r⟩;show HOK X ρ (h.set i (some (q2q W F))) w';rw[qvs hi];exact H.frame hB
  | some s=>
   have hn:bs.length=s.n:=hb.1;have hc:∀j,j<bs.length->w.cell? ((⟨s.b,s.o,s.sp⟩:Addr).add j)=some (.int .u8 (bs.getD j 0)):=λj hj=>by
    obtain⟨h1,h2⟩:=hb.2 s rfl;have hsp:s.sp=none:=by rcases h1 with h1|h1;exact h1;omega
    rw[hsp,qcn];exact h2 j hj
   have:=quj to_ at_ tr be ⟨s.b,s.o,s.sp⟩ s.c bs w hm hc;rw[hn] at this;refine this.mono ?_;rintro e w' ⟨g,c,rfl,ho,hg,hB⟩;rw[<-hn] at ho;have hat:=q11 ho;obtain⟨hno,H'⟩:=qn6 (e:=⟨g,c,bs⟩) H hi hB hat hg;refine⟨_,rfl,mailV to_ (By.mk g c bs).s at_ tr be,_,ρ,⟨_,_,.new hno,rfl,rfl⟩,AgreeOn.refl _ _,H',λr _=>?_⟩;rw[qhw];show q6u to_ (some ⟨g,0,bs.length,c,none⟩) at_ tr be=_;rw[hn];rfl
theorem qs0{f:FuncId}{fn:Func}{c:Code}{V:Value}(W:World)(hG:q2w prog tys)(hm:prog.follows .mixedOrders=true)(hf:prog.funcs[f]?=some fn)(hb:fn.body=some c)(hW:0<W.heap.size)(hp:vs.all qaj=true)(hV:qaq V=true)
  (hwp:initK vs fn.ntmps λt=>wpC prog tys 1 c (bodyQ prog tys fn λv st=>N (v=V/\∃F,st.h[0]?=some (some (q2q W F)))) ⟨t,[some (q2q W [])]⟩):Calls prog f ⟨vs⟩ W λe w'=>e=.returned V/\Below W.heap.size W w':=by
 let X:Ctx:=⟨W,λa=>a.block<W.heap.size,1,λ_=>(0,0)⟩
 have one:∀(k:Nat)(d:Chunk),[some (q2q W [])][k]?=some (some d)->k=0/\d=q2q W []:=λk d hk=>Q1J
 have H:HOK X (λ_=>(0,0)) [some (q2q W [])] W:=by
  refine⟨Evo.refl _ _,λi hi=>⟨⟨_,by
    have hi:i<1:=hi;obtain rfl:i=0:=by omega
    rfl⟩,rfl⟩,λk d hk=>hW,λk d hk j hj=>?_,λk d hk ho j hj=>?_,λk d l e hk ho hl hne=>?_,λi b=>i=0/\b<W.heap.size,λk d hk=>?_,λk d b hk hS=>?_,λk d b l e hk hS hl hne=>?_⟩
  .exact Q1c
  .exact Q1c
  .exact Q28
  .obtain⟨rfl,rfl⟩:=one k d hk;exact⟨λ_=>hW,λb=>⟨λh=>.inl h.2,λh=>by
    rcases h with h|⟨e,he,_⟩
    .exact⟨rfl,h⟩
    .cases he⟩,nlr _,λ_ _=>rfl,xD,λe he=>by cases he⟩
  .exact Q1E
  exact Q26
 have hd:∀{vs:List Value},vs.all qaj=true->All2 (Den (Fil [some (q2q W [])]) λ_=>(0,0)) vs vs:=by
  intro vs
  induction vs with
  | nil=>exact λ_=>trivial
  | cons v r ih=>
   exact Q1x
 refine(qdy (args:=⟨vs⟩) (X:=X) hG hm hf hb H (hd hp) hwp).mono ?_
 rintro e w' ⟨ρ',v,st,x,rfl,H',hdx,hq⟩
 obtain⟨rfl,F,hF⟩:=hq.out
 obtain⟨S,E⟩:=H'.ext
 have M:MemOK W F (ρ' 0) (S 0) w':=E.inv 0 _ hF
 exact⟨by rw[<-hdx.self,qa3 hV],H'.evo.os,H'.evo.tape,H'.evo.output,H'.evo.size,λb hb=>M.old b hb⟩
theorem q12{w:World}{r:Rw}(hr:BufOK r bs)(hA:RwAt w r):r.o=0/\ByAt w ⟨r.b,r.c,bs⟩:=by
 obtain⟨q4,cur,z,hh,hz,hs⟩:=hA.own hr.w;have hl:r.xs.length=bs.length:=by rw[hr.xs,yz]
 refine⟨q4,hA.lt,λj hj=>?_,λj hj=>?_⟩
 .have hj:j<bs.length:=hj;have h1:=hA.cell j Q4L;rw[q4,xj,hr.xs,xQ,xp hj] at h1;show w.cell? ⟨r.b,j,none⟩=some (.int .u8 (bs.getD j 0));rw[h1,xH,xp hj];rfl
 .have hj:j<bs.length:=hj;have hc:=hA.cap;have hn:=hr.n;have hk:=hr.k;rw[hk,x6] at hs;exact(qn7 hh hz j Q4L).2
theorem q13{r:Rw}(hr:BufOK r bs)(h0:r.o=0):(some r.sl:Option Sl)=(By.mk r.b r.c bs).s:=by
 show(some ⟨r.b,r.o,r.n,r.c,none⟩:Option Sl)=some ⟨r.b,0,bs.length,r.c,none⟩;rw[h0,hr.n]
theorem qvt(W:World)(F:List By)(k s b q st ds t1 t2 wh wn x y a c d:Int)(hk:Fi k)(hs:Fi s)(hb:Fi b)(hq:Fi q)(hst:Fi st)(hds:Fi ds)(ht1:Fi t1)(ht2:Fi t2)(hwh:Fi wh)(hwn:Fi wn)(hx:Fi x)(hy:Fi y)(ha:Fi a)(hc:Fi c)(hd:Fi d)(hM:∀h,qae prog 203 [frF k s b q st ds t1 t2 wh wn x y a c d] h (.bool true) [] [])(i:Nat)(h:Hp)(hi:h[i]?=some (some (q2q W F))):
  CallAll prog 165 [frF k s b q st ds t1 t2 wh wn x y a c d] h λv ms=>∃e:By,e.bs=encB k s b q st ds t1 t2 wh wn x y a c d/\e.b∉F.map By.b/\v=.tuple #[uV e.s,xc 0]/\ms=[(i,q2q W (e::F))]:=λX ρ w xs H hxs=>by
 obtain rfl:=qbx (vs:=[frF k s b q st ds t1 t2 wh wn x y a c d]) rfl hxs
 obtain⟨S,E⟩:=H.ext
 have M:MemOK W F (ρ i) (S i) w:=E.inv i _ hi
 refine .inr ⟨call165 _ w,(qvr k s b q st ds t1 t2 wh wn x y a c d hk hs hb hq hst hds ht1 ht2 hwh hwn hx hy ha hc hd hM w (by have:=H.lt _ _ hi;omega)).mono ?_⟩
 rintro e w' ⟨r,hr,rfl,hB,hA⟩
 obtain⟨hA,hge⟩:=hA r (xP.2 rfl)
 obtain⟨h0,hby⟩:=q12 hr hA
 obtain⟨hno,H'⟩:=qn6 (e:=⟨r.b,r.c,encB k s b q st ds t1 t2 wh wn x y a c d⟩) H hi hB hby hge
 have e:∀r2,den2 r2 (uV (some r.sl))=uR (some r.sl):=λr2=>qjh (some r.sl) r2
 have e2:∀r2,den r2 (.tuple #[uV (some r.sl),xc 0])=.tuple #[uR (some r.sl),xc 0]:=λr2=>by
  show Value.tuple (#[uV (some r.sl),xc 0].map (den2 r2))=_;simp only[yu,xi,xZ,e];rfl
 refine⟨_,rfl,.tuple #[uV (some r.sl),xc 0],_,ρ,⟨⟨r.b,r.c,encB k s b q st ds t1 t2 wh wn x y a c d⟩,rfl,hno,by rw[q13 hr h0],rfl⟩,AgreeOn.refl _ _,H',λr2 _=>?_⟩
 rw[e2,e2]
open Go Go.RowKit Sx
theorem qz0{h:Hp}(hh:h[k]?=some (some ⟨true,n,[(0,n,.agg ⟨segL n (repZ 1 (.bool false))⟩)]⟩)):PostC ix h k (mvP true n λ_=>false):=
 ⟨_,hh,id,nlr _,λj hj=>by
  have hj:j<n:=hj;rw[qb8 hj,qb8 hj];rw[show repZ 1 (.bool false) j=.bool false from(qcg j).symm];exact .plain rfl⟩
theorem qz1(c:Nat->Int)(n cap i j k m:Nat)(P:Nat->Int)(M:Nat->Bool)(tm st:Int)(o2 o3:Bool)(h:Hp)(hi:h[i]?=some (some (wcc true c n cap j k tm st)))(hj:h[j]?=some (some (ptP o2 n P)))(hk:h[k]?=some (some (mvP o3 n M)))(hm:h[m]?=some none)(hij:i≠j)(hik:i≠k)(hn:1<=n/\n<=64)(ht:0<=tm/\tm<750000):
  qae prog 130 [xd i] h (.bool true) [(i,wcc true c n cap j m (tm+1) 0),(m,mvP true n λ_=>false)] [j,k]:=by
 have e1:IntKind.i64.wrap (tm+1)=tm+1:=q23 _ Q4L Q4L
 refine qau (G:=tys) [⟨i,_,wcc true c n cap 1 2 tm st,wcc true c n cap j m (tm+1) 0⟩,⟨j,_,ptP false n P,⟨false,0,[]⟩⟩,⟨k,_,mvP false n M,⟨false,0,[]⟩⟩] [⟨m,7,mvP true n λ_=>false⟩] [xd 0] tysOK q2p func130 Q4N (call130) ⟨hi,hj,hk,xb⟩ ⟨⟨λh=>⟨rfl,nlr _⟩,nlr _,qfu rfl rfl⟩,Q4a,Q49,xb⟩ (by simp[Apart,hij,hik]) ⟨⟨hm,rfl,by show 0<n;omega,by simp⟩,xb⟩ ⟨.ptr rfl,xb⟩ ?_
 repeat' (refine Ba ?_;first|refine Q2R ?_|refine MakeN.mk n n rfl rfl (by show 1*n<=_;omega) Q4L (x6 n).symm ?_|refine Q3a ?_|refine Q3J ?_|refine Q3C ?_|refine Bb ⟨⟨by show 3<=7;decide,qz0 Q4N⟩,xb⟩ ?_|exact Bd|fail)
end Go.Proofs.YtggfpcfkbilkmaaGreatDoor


namespace Go.Proofs.YtggfpcfkbilkmaaGreatDoor.Sx
open Go Go.RowKit
def sh2(l:Nat):Nat:=match l with
 | 0=>0
 | l+1=>l+2
theorem q14(l:Nat):sh2 l≠1:=by cases l<;>simp[sh2]
theorem qhx{B:Type}{ok:B->Prop}{h:B->Hp}{i j:Nat}{c d c2 e2 d2:Chunk}(o:B->Hp)(ix:Lz)(hix:∀l i,(l,i)∈ix->i=sh2 l)(hn2:e2.n=0)(h1:∀β,(o β)[1]?=some (some e2))
  (hre:∀β,ok β->∀(l:Nat)(dl:Chunk),(h β)[l]?=some (some dl)->∃d':Chunk,(o β)[sh2 l]?=some (some d')/\d'.n=dl.n/\d'.x=dl.x/\∀k,k<d'.n->Re1 ix (d'.f k) (dl.f k))
  (hre':∀β,ok β->∀(k:Nat)(d':Chunk),(o β)[k]?=some (some d')->k=1\/∃l,k=sh2 l/\Fil (h β) l):Opens [⟨i,c,packC ok h,d⟩,⟨j,c2,e2,d2⟩] ok o:=λX ρ w T H=>by
 obtain⟨S,E⟩:=H.ext
 have g0:(partH [⟨i,c,packC ok h,d⟩,⟨j,c2,e2,d2⟩])[0]?=some (some (packC ok h)):=rfl
 have g1:(partH [⟨i,c,packC ok h,d⟩,⟨j,c2,e2,d2⟩])[1]?=some (some e2):=rfl
 have two:∀(k:Nat)(e:Chunk),(partH [⟨i,c,packC ok h,d⟩,⟨j,c2,e2,d2⟩])[k]?=some (some e)->k=0\/k=1:=λk e hk=>by
  match k,hk with
  | 0,_=>exact .inl rfl
  | 1,_=>exact .inr rfl
  | k+2,hk=>simp[partH] at hk
 obtain⟨_,β,hβ,ρp,Tp,e0,hf,K⟩:=E.inv 0 _ g0
 have n0:X.n0=2:=T.n0
 let un:Nat->Nat:=λk=>match k with
  | 0=>0
  | k+1=>k
 have un_sh:∀l,un (sh2 l)=l:=λl=>by cases l<;>rfl
 let ρ':Nat->Nat×Nat:=λk=>if k=1 then ρ 1 else ρp (un k)
 have ρ1:ρ' 1=ρ 1:=if_pos rfl
 have ρs:∀l,ρ' (sh2 l)=ρp l:=λl=>by
  show(if sh2 l=1 then ρ 1 else ρp (un (sh2 l)))=_;rw[if_neg (q14 l),un_sh]
 have ρ0:ρ' 0=ρ 0:=(ρs 0).trans e0
 have fil0:Fil (o β) 0:=by
  obtain⟨dl,hdl⟩:=hf;obtain⟨d',hd',_⟩:=hre β hβ 0 dl hdl;exact⟨d',hd'⟩
 have filS:∀l,Fil (h β) l->Fil (o β) (sh2 l):=λl ⟨dl,hdl⟩=>by
  obtain⟨d',hd',_⟩:=hre β hβ l dl hdl;exact⟨d',hd'⟩
 have old:∀(k:Nat)(d':Chunk),(o β)[k]?=some (some d')->k≠1->∃(l:Nat)(dl:Chunk),k=sh2 l/\(h β)[l]?=some (some dl)/\d'.n=dl.n/\d'.x=dl.x/\∀q,q<d'.n->Re1 ix (d'.f q) (dl.f q):=λk d' hk hne=>by
  rcases hre' β hβ k d' hk with rfl|⟨l,rfl,dl,hdl⟩
  .exact absurd rfl hne
  .obtain⟨d2,hd2,r1,r2,r3⟩:=hre β hβ l dl hdl;rw[hk] at hd2;obtain rfl:d'=d2:=by simpa using hd2
   exact⟨l,dl,rfl,hdl,r1,r2,r3⟩
 refine⟨β,hβ,ρ',λk hk=>?_,λk hk=>?_,?_⟩
 .obtain⟨e,he⟩:=hk;rcases two k e he with rfl|rfl
  .exact ρ0
  .exact ρ1
 .obtain⟨e,he⟩:=hk;rcases two k e he with rfl|rfl
  .exact fil0
  .exact⟨_,h1 β⟩
 .refine H.redo (T:=λk b=>Tp (un k) b) E (λk=>k=0) (λk=>k≠1) (S 0) (λb hb=>⟨0,_,rfl,g0,.inr hb⟩) (λb hb=>(E.mine 0 _ b g0 hb).2.2) (λk hk=>?_) (λk e hk hA=>?_) (λk e hk hA=>?_) (λk e l f hk hA hl hB hne=>?_)
  .rw[n0] at hk;have:k=0\/k=1:=by omega
   rcases this with rfl|rfl
   .exact⟨fil0,ρ0⟩
   .exact⟨⟨_,h1 β⟩,ρ1⟩
  .obtain rfl:k=1:=Decidable.not_not.1 hA;rw[h1 β] at hk;obtain rfl:e2=e:=by simpa using hk
   exact⟨by decide,ρ1,g1,λq hq=>by rw[hn2] at hq;exact absurd hq (xO q)⟩
  .obtain⟨l,dl,rfl,hdl,r1,r2,r3⟩:=old k e hk hA;have hu:=un_sh l;refine⟨by rw[ρs];exact K.blk l dl hdl,λq hq=>?_,λ_ q hq=>by rw[ρs];exact K.own l dl hdl q Q4L,?_,λb hb=>?_⟩
   .obtain⟨x,hx,hxd⟩:=K.cell l dl hdl q Q4L;rw[ρs];refine⟨x,hx,λr hr=>?_⟩;rw[(r3 q hq).den (r:=r) (r':=λk=>r (sh2 k)) (λa b hab=>by rw[hix a b hab])];exact hxd (λk=>r (sh2 k)) λk hk=>(hr _ (filS k hk)).trans (ρs k)
   .rw[r2,ρs];have:(λb=>Tp (un (sh2 l)) b)=Tp l:=by rw[hu]
    rw[this];exact K.inv l dl hdl
   .rw[hu] at hb;obtain⟨q1,q2⟩:=K.foot l dl b hdl hb;exact⟨q1,by rw[r1,ρs];exact q2⟩
  .obtain⟨a,da,rfl,hda,_⟩:=old k e hk hA;obtain⟨b,db,rfl,hdb,_⟩:=old l f hl hB;have hab:a≠b:=λe=>hne (by rw[e])
   obtain⟨q1,q2⟩:=K.sep a da b db hda hdb hab;exact⟨λ_=>by rw[ρs,ρs];exact q1,λx hx=>by rw[un_sh] at hx ⊢;rw[ρs];exact q2 x hx⟩
end Go.Proofs.YtggfpcfkbilkmaaGreatDoor.Sx


namespace Go.Proofs.YtggfpcfkbilkmaaGreatDoor
open Go Go.RowKit Sx
variable{slot:Nat}
theorem App0N.mk1{cj:Chunk}{g m size bytes:Nat}{z:Value}{K:Value->Mz->Prop}(v:Value)(hr:Reads cj g true (m*size) v)(h0:0<m)(h1:m<=9223372036854775807)(h2:m*bytes<=140737488355328)
  (k:∀cap,m<=cap->K (.slice (some ⟨slot,0,some 0⟩) m cap) [(slot,grown ⟨true,0,[]⟩ 0 m size v z cap)]):N (App0N cj g m size bytes z slot K):=N.mk (.inl ⟨v,hr,h0,h1,h2,k⟩)
variable{k c:Nat}
theorem AppN.mk1{ci:Chunk}{s l:Nat}{cj:Chunk}{g m size bytes:Nat}{z:Value}{K:Value->Mz->Prop}(v:Value)(hr:Reads cj g true (m*size) v)(hf:flatB v (m*size)=true)(hl:l*size<=ci.n)(h1:l+m<=9223372036854775807)(h2:(l+m)*bytes<=140737488355328)
  (d:Chunk) (hw:l+m<=c->Writes ci (l*size) (m*size) v d) (k1:l+m<=c->K (.slice (some ⟨k,0,some s⟩) (l+m) c) [(k,d)]) (k2:c<l+m->∀cap,l+m<=cap->K (.slice (some ⟨slot,0,some 0⟩) (l+m) cap) [(slot,grown ci l m size v z cap)]):N (AppN ci k s l c cj g m size bytes z slot K):=
 N.mk ⟨v,hr,hf,hl,h1,h2,λh=>⟨d,hw h,k1 h⟩,k2⟩
variable{P:Program}{vs:List Value}
theorem N.callM{g:FuncId}{h:Hp}{C:List Nat->Prop}{K:List Nat->Value->Mz->Prop}(hs:List Nat)(R:Value->Mz->Prop)(hC:C hs)(hc:∀h₂:Hp,(∀q∈hs,h₂[q]?=h[q]?)->CallAll P g vs h₂ R)(k:∀v ms,R v ms->(∀q∈ms.map (·.1),q∈hs)/\K hs v ms):N (q5e P g vs h slot C K):=N.mk ⟨hs,R,hC,hc,k⟩
abbrev q8r(o:Bool)(v:Value):Chunk:=⟨o,1,[(0,1,.agg #[v])]⟩
theorem N.bnd{lo hi:Option Value}{len cap:Nat}{K:Nat->Nat->Nat->Prop}(p q s:Nat)(hq:Bnd hi len cap q)(hp:Bnd lo 0 q p)(k:K p q s):N (q7b lo hi len cap K):=N.mk ⟨p,q,s,hq,hp,k⟩
structure Ml where
 to_:Int
 u:Option Sl
 at_:Int
 tr:Int
 be:Bool
abbrev Ml.v(m:Ml):Value:=mailV m.to_ m.u m.at_ m.tr m.be
abbrev Ml.z:Ml:=⟨0,none,0,0,false⟩
def mlc(m:Ml):Nat->Value
 | 0=>.int .i64 m.to_
 | 1=>uV m.u
 | 2=>.int .i64 m.at_
 | 3=>.int .i64 m.tr
 | 4=>.bool m.be
 | _=>.int .i64 0
variable{ix:Lz}
theorem qxo(m:Ml)(k:Nat):Re1 ix (mlc m k) (mlc m k):=by unfold mlc;split<;>first|exact .plain rfl|exact qrh _
theorem qxp(m:Ml)(h:k<5):cellIn m.v k=mlc m k:=by
 match k,h with
 | 0,_=>rfl
 | 1,_=>rfl
 | 2,_=>rfl
 | 3,_=>rfl
 | 4,_=>rfl
def Eqv(v v':Value):Prop:=∀r r',den1 r v=den1 r' v'
theorem qhy(m:Ml)(k:Nat):Eqv (mlc m k) (mlc m k):=λr r'=>by
 have:=(qxo m k (ix:=[])).den (r:=r) (r':=r') (λa b h=>by cases h);exact this
theorem ql6{v:Value}{m:Ml}(h:v=mlc m k):Eqv v (mlc m k):=by subst h;exact qhy m k
theorem qvu(j:Nat):Eqv (repZ 5 (.agg #[xc 0,.slice none 0 0,xc 0,xc 0,.bool false]) j) (mlc Ml.z (j%5)):=by
 unfold repZ;have h:j%5<5:=xA _ Q4P;generalize j%5=k at h
 match k,h with
 | 0,_=>exact qhy Ml.z 0
 | 1,_=>exact λr r'=>rfl
 | 2,_=>exact qhy Ml.z 2
 | 3,_=>exact qhy Ml.z 3
 | 4,_=>exact qhy Ml.z 4
abbrev mlA(o:Bool)(c:Nat)(T:Nat->Ml):Chunk:=⟨o,c*5,[(0,c*5,.agg ⟨segL (c*5) λj=>mlc (T (j / 5)) (j%5)⟩)]⟩
variable{T:Nat->Ml}
theorem q15{o o':Bool}:∀j,j<c*5->Re1 ix ((mlA o c T).f j) ((mlA o' c T).f j):=λj hj=>by
 rw[qay hj,qay hj];exact qxo _ _
def q4g(T:Nat->Ml)(l:Nat)(x:Ml)(i:Nat):Ml:=if i=l then x else T i
variable{n:Nat}{x:Ml}
theorem q16{l p:Nat}(hn:n=5)(h:l<c)(e:p=l*5):Writes (mlA true c T) p n x.v (mlA true c (q4g T l x)):=by
 subst e hn;refine⟨rfl,by show l*5+5<=c*5;omega,rfl,λj hj=>?_⟩;have hj:j<c*5:=hj;rw[qay hj,qay hj];unfold q4g;by_cases e:l*5<=j/\j<l*5+5
 .rw[if_pos e,if_pos Q4L,qxp _ Q4L];congr 1;omega
 .rw[if_neg e,if_neg Q4L]
abbrev Ml.bent(m:Ml):Ml:=⟨m.to_,m.u,m.at_,m.tr,true⟩
def q43(T:Nat->Ml)(l:Nat)(x:Ml)(i:Nat):Ml:=if i<l then T i else if i=l then x else Ml.z
variable{j:Nat}
theorem ql7{ci:Chunk}{l cap:Nat}{z:Value}(hz:z=.agg #[xc 0,.slice none 0 0,xc 0,xc 0,.bool false])(h:l<cap)(hc:∀j,j<l*5->ci.f j=mlc (T (j / 5)) (j%5))(hj:j<cap*5):Eqv ((grown ci l 1 5 x.v z cap).f j) (mlc (q43 T l x (j / 5)) (j%5)):=by
 subst hz;unfold q43;by_cases h1:j<l*5
 .rw[qdq h1,if_pos Q4L];exact ql6 (hc j h1)
 .rw[if_neg Q4L];by_cases h2:j<(l+1)*5
  .have:=qdr (ci:=ci) (l:=l) (m:=1) (size:=5) (cap:=cap) (v:=x.v) (z:=.agg #[xc 0,.slice none 0 0,xc 0,xc 0,.bool false]) (j:=j-l*5) Q4L;rw[show l*5+(j-l*5)=j by omega] at this;rw[this,if_pos Q4L,qxp _ Q4L];refine ql6 ?_;congr 1;omega
  .rw[qcx Q4L hj,if_neg Q4L];exact qvu j
def q4h(L:List Ml):Option (Nat×(Nat->Ml))->Prop
 | none=>L=[]
 | some (c,T)=>1<=c/\L.length<=c/\∀i m,L[i]?=some m->T i=m
abbrev q75(L:List Ml)(β:Option (Nat×(Nat->Ml))):Hp:=match β with
 | none=>[some (q8r true (.slice none 0 0)),none]
 | some (c,T)=>[some (q8r true (.slice (some ⟨1,0,some 0⟩) L.length c)),some (mlA true c T)]
abbrev airP(L:List Ml):Chunk:=packC (q4h L) (q75 L)
theorem qnd(L:List Ml):(airP L).x≠Ext.none:=λe=>by
 have h1:∀p S w,(airP L).x.inv p S w->S p.1:=qao;exact Q1y
abbrev jac(W:World)(F:List By)(L:List Ml)(β:Option (Nat×(Nat->Ml))):Hp:=match β with
 | none=>[some (q8r true (.slice none 0 0)),some (q2q W F),none]
 | some (c,T)=>[some (q8r true (.slice (some ⟨2,0,some 0⟩) L.length c)),some (q2q W F),some (mlA true c T)]
variable{F:List By}{L:List Ml}
theorem qpx{i:Nat}{c d c2 d2:Chunk}{W:World}:Opens [⟨i,c,airP L,d⟩,⟨j,c2,q2q W F,d2⟩] (q4h L) (jac W F L):=by
 refine qhx (jac W F L) [(0,0),(1,2)] (λl i hm=>?_) rfl (λβ=>?_) (λβ hβ l dl hl=>?_) (λβ hβ k d' hk=>?_)
 .simp only[xf,Prod.mk.injEq,xw,or_false] at hm;rcases hm with ⟨rfl,rfl⟩|⟨rfl,rfl⟩<;>rfl
 .cases β<;>rfl
 .cases β with
  | none=>
   match l,hl with
   | 0,hl=>
    obtain rfl:_=dl:=by simpa using hl
    exact⟨_,rfl,rfl,rfl,λk hk=>by
     match k,hk with
     | 0,_=>exact .plain rfl⟩
   | 1,hl=>simp at hl
   | l+2,hl=>simp at hl
  | some q=>
   obtain⟨cc,T⟩:=q
   match l,hl with
   | 0,hl=>
    obtain rfl:_=dl:=by simpa using hl
    exact⟨_,rfl,rfl,rfl,λk hk=>by
     match k,hk with
     | 0,_=>exact .slice rfl⟩
   | 1,hl=>
    obtain rfl:_=dl:=by simpa using hl
    exact⟨_,rfl,rfl,rfl,q15⟩
   | l+2,hl=>simp at hl
 .cases β with
  | none=>
   match k,hk with
   | 0,_=>exact .inr ⟨0,rfl,_,rfl⟩
   | 1,_=>exact .inl rfl
   | 2,hk=>simp at hk
   | k+3,hk=>simp at hk
  | some q=>
   match k,hk with
   | 0,_=>exact .inr ⟨0,rfl,_,rfl⟩
   | 1,_=>exact .inl rfl
   | 2,_=>exact .inr ⟨1,rfl,_,rfl⟩
   | k+3,hk=>simp at hk
theorem safeM{h:Hp}{W:World}{h':Hp}(h1:h[1]?=some (some (q2q W F))):∀k∈[1],∀(d:Chunk),h[k]?=some (some d)->∀j,j<d.n->Safe1 h' (d.f j):=λk hk d hd j hj=>by
 obtain rfl:=xP.1 hk;rw[h1] at hd;obtain rfl:q2q W F=d:=by simpa using hd
 exact absurd hj (xO j)
variable{K:Value->Hp->Prop}{ss:List q2r}
theorem qhz{h:Hp}{v:Value}(m:Nat)(keep:List Nat)(L:List Ml)(k c:Nat)(T:Nat->Ml){a b:Chunk}(hbs:∀i,i<ss.length->i=m\/i∈keep)(hpc:∀l,(l=m\/l=k)->l<ss.length->∃s,ss[l]?=some s/\s.e.x≠Ext.none/\Selfish s.e.x)
  (hc:1<=c) (hl:L.length<=c) (hT:∀i m,L[i]?=some m->T i=m) (h0:h[m]?=some (some a)) (ha:a.own=true) (hn:1<=a.n) (haf:a.f 0=.slice (some ⟨k,0,some 0⟩) L.length c) (hk:h[k]?=some (some b)) (hkm:m≠k) (hb:b.own=true) (hbn:c*5<=b.n) (hbf:∀j,j<c*5->Eqv (b.f j) (mlc (T (j / 5)) (j%5)))
  (hkk:∀x∈keep,x≠m/\x≠k) (hkd:∀x∈keep,∀(d:Chunk),h[x]?=some (some d)->∀j,j<d.n->Safe1 (qa7 (airP L) m keep h 0) (d.f j))
  (hv:∀ρ ρ',AgreeOn (Fil (qa7 (airP L) m keep h 0)) ρ ρ'->den ρ' v=den ρ v) (kk:K v (qa7 (airP L) m keep h 0)):N (q4v ss h v K):=by
 refine qgh (ok:=q4h L) (hB:=q75 L) (some (c,T)) m [(0,m),(1,k)] keep (λl i hm hi=>hpc i ?_ hi) hbs ⟨hc,hl,hT⟩ rfl ⟨_,rfl⟩ ?_ rfl ?_ (λx hx l i hm=>?_) hkd hv (xe.1 h0).1 kk
 .exact Q1N
 .have e2:Nat.beq k m=false:=by
   cases e:Nat.beq k m with
   | false=>rfl
   | true=>exact absurd (xF e).symm hkm
  have e1:Nat.beq 1 0=false:=rfl;simp[q4d,e1,e2]
 .intro l d hd
  match l,hd with
  | 0,hd=>
   obtain rfl:_=d:=by simpa using hd
   refine⟨m,a,rfl,h0,ha,hn,λj hj=>?_,.inl rfl,.inl Q4L⟩
   match j,hj with
   | 0,_=>rw[haf];exact .slice rfl
  | 1,hd=>
   obtain rfl:_=d:=by simpa using hd
   refine⟨k,b,rfl,hk,hb,hbn,λj hj=>?_,.inl rfl,.inl Q4L⟩;have hj:j<c*5:=hj;rw[qay hj];exact .any (hbf j hj)
  | l+2,hd=>simp at hd
 .have:=hkk x hx;exact Q1N
theorem qis{h:Hp}{v:Value}(m:Nat)(keep:List Nat){a:Chunk}(hbs:∀i,i<ss.length->i=m\/i∈keep)(hpc:m<ss.length->∃s,ss[m]?=some s/\s.e.x≠Ext.none/\Selfish s.e.x)
  (h0:h[m]?=some (some a)) (ha:a.own=true) (hn:1<=a.n) (haf:a.f 0=.slice none 0 0)
  (hkk:∀x∈keep,x≠m) (hkd:∀x∈keep,∀(d:Chunk),h[x]?=some (some d)->∀j,j<d.n->Safe1 (qa7 (airP []) m keep h 0) (d.f j))
  (hv:∀ρ ρ',AgreeOn (Fil (qa7 (airP []) m keep h 0)) ρ ρ'->den ρ' v=den ρ v) (kk:K v (qa7 (airP []) m keep h 0)):N (q4v ss h v K):=by
 refine qgh (ok:=q4h []) (hB:=q75 []) none m [(0,m)] keep (λl i hm hi=>?_) hbs rfl rfl ⟨_,rfl⟩ rfl rfl ?_ (λx hx l i hm=>?_) hkd hv (xe.1 h0).1 kk
 .simp only[xf,Prod.mk.injEq,xw,or_false] at hm;obtain⟨_,rfl⟩:=hm;exact hpc hi
 .intro l d hd
  match l,hd with
  | 0,hd=>
   obtain rfl:_=d:=by simpa using hd
   refine⟨m,a,rfl,h0,ha,hn,λj hj=>?_,.inl rfl,.inl Q4L⟩
   match j,hj with
   | 0,_=>rw[haf];exact .plain rfl
  | 1,hd=>simp at hd
  | l+2,hd=>simp at hd
 .have:=hkk x hx;exact Q1N
theorem q17(hss:ss.length=2):∀i,i<ss.length->i=0\/i∈[1]:=λi hi=>by
 rw[hss] at hi;have:i=0\/i=1:=by omega
 rcases this with rfl|rfl
 .exact .inl rfl
 .exact .inr Q40
theorem qj6{h:Hp}{v:Value}{W:World}(L:List Ml)(k c:Nat)(T:Nat->Ml){a b:Chunk}(hss:ss.length=2)(hpc:∀l,l<1->∃s,ss[l]?=some s/\s.e.x≠Ext.none/\Selfish s.e.x)
  (hc:1<=c) (hl:L.length<=c) (hT:∀i m,L[i]?=some m->T i=m) (h0:h[0]?=some (some a)) (ha:a.own=true) (hn:1<=a.n) (haf:a.f 0=.slice (some ⟨k,0,some 0⟩) L.length c) (h1:h[1]?=some (some (q2q W F))) (hk:h[k]?=some (some b)) (hk2:2<=k) (hb:b.own=true) (hbn:c*5<=b.n) (hbf:∀j,j<c*5->Eqv (b.f j) (mlc (T (j / 5)) (j%5)))
  (hv:∀ρ ρ',AgreeOn (Fil (qa7 (airP L) 0 [1] h 0)) ρ ρ'->den ρ' v=den ρ v) (kk:K v (qa7 (airP L) 0 [1] h 0)):N (q4v ss h v K):=
 qhz 0 [1] L k c T (q17 hss) (λl _ hl=>hpc l Q4L) hc hl hT h0 ha hn haf hk Q4L hb hbn hbf (λx hx=>by obtain rfl:=xP.1 hx;omega) (safeM h1) hv kk
open Go Go.RowKit Sx
theorem CallAll.to{g:FuncId}{h:Hp}{R R':Value->Mz->Prop}(k:CallAll P g vs h R)(hR:∀v ms,R v ms->R' v ms):CallAll P g vs h R':=by
 intro X ρ w xs H hx;rcases k X ρ w xs H hx with ⟨v,w',hr,u,ms,ρ',hq,ha⟩|⟨hr,hcl⟩
 .exact .inl ⟨v,w',hr,_,_,ρ',hR _ _ hq,ha⟩
 .refine .inr ⟨hr,hcl.mono ?_⟩;rintro e w' ⟨y,he,u,ms,ρ',hq,ha⟩;exact⟨y,he,_,_,ρ',hR _ _ hq,ha⟩
theorem qo0(T:Nat->Ml)(l:Nat)(x:Ml):q4g T l x l=x:=if_pos rfl
theorem qo1{l i:Nat}(h:i≠l):q4g T l x i=T i:=if_neg h
theorem qvv{l i:Nat}(h:i<l):q43 T l x i=T i:=if_pos h
variable{u:Option Sl}{bs:List Int}
theorem Sx.Src.len{W:World}(h:Src W F u bs):bs.length=uN u:=by
 cases h with
 | nil=>rfl
 | own he=>rfl
 | old hn hc=>exact hn
theorem qs1{i:Nat}{c d c2 d2:Chunk}{W:World}:∀l,l<1->∃s,[(⟨i,c,airP L,d⟩:q2r),⟨j,c2,q2q W F,d2⟩][l]?=some s/\s.e.x≠Ext.none/\Selfish s.e.x:=λl hl=>by
 match l,hl with
 | 0,_=>exact⟨_,rfl,qnd L,qao⟩
theorem qne(hT:∀i m,L[i]?=some m->T i=m)(hx:T L.length=x):∀i m,(L++[x])[i]?=some m->T i=m:=λi m hm=>by
 by_cases h:i<L.length
 .rw[yE h] at hm;exact hT i m hm
 .rw[yF Q4L] at hm;have:i-L.length=0:=by
   have:=(xe.1 hm).1;simp at this;omega
  rw[this] at hm;have e:i=L.length:=by omega
  subst e;rw[hx];simpa using hm
theorem jad(W:World)(F:List By)(L:List Ml)(to_ at_ tr:Int)(be:Bool)(u:Option Sl)(bs:List Int)(i j:Nat)(hij:i≠j)(h:Hp)(hi:h[i]?=some (some (airP L)))(hj:h[j]?=some (some (q2q W F)))(hs:Src W F u bs)(hb:bs.length<=1000)(hl:L.length<512):
  CallAll prog 167 [xd i,mailV to_ u at_ tr be] h (λv ms=>∃u' F',Made F bs u' F'/\v=.bool true/\ms=[(i,airP (L++[⟨to_,u',at_,tr,be⟩])),(j,q2q W F')]):=by
 refine CallAll.to (qar (G:=tys) (h:=h) (vs:=[xd i,mailV to_ u at_ tr be]) (q4h L) (jac W F L) (α:=Option Sl×List By) (λκ=>Made F bs κ.1 κ.2) (λκ=>.bool true) [⟨i,airP L,airP L,airP L⟩,⟨j,q2q W F,q2q W F,q2q W F⟩] (λκ=>[airP (L++[⟨to_,κ.1,at_,tr,be⟩]),q2q W (κ.2)]) (λκ=>[]) [xd 0,mailV to_ u at_ tr be] tysOK q2p func167 Q4N (call167) ⟨hi,hj,xb⟩ ⟨Q3R,Q3R,xb⟩ (λκ _=>⟨Q3R,Q3R,xb⟩) (by simp[Apart,hij]) Q4A (λκ _=>trivial) ⟨.ptr rfl,qoz _ _ _ _ _,xb⟩ qpx ?_) ?_
 rotate_left
 .rintro v ms ⟨κ,hκ,rfl,rfl⟩;exact⟨κ.1,κ.2,hκ,rfl,rfl⟩
 intro β hβ
 have hlen:=hs.len
 cases β with
 | none=>
  obtain rfl:L=[]:=hβ;refine Q08 ?_;refine Bp [0,1,2,3,4,5,9,10] [(6,[7]),(8,[11])] Q4Q ?_;refine Q08 ?_;refine N.callM [1] _ Q4Q (λh₂ hh=>q74 W F _ bs hs Q4L to_ at_ tr be 1 h₂ Q4z) λv ms hR=>?_
  obtain⟨u',F',hM,rfl,rfl⟩:=hR;refine⟨by simp,?_⟩;repeat' (refine Ba ?_;first|refine Q2R ?_|refine Q37 ?_|refine Q3a ?_|refine Q3t ?_|refine Q3h ?_|fail)
  refine Ba ?_;refine Bb Q4Z ?_;refine Ba ?_;refine App0N.mk1 (Ml.v (Ml.mk to_ (u') at_ tr be)) ⟨nlr _,_,rfl,rfl,λj hj=>by
   match j,hj with
   | 0,_=>rfl
   | 1,_=>rfl
   | 2,_=>rfl
   | 3,_=>rfl
   | 4,_=>rfl⟩ Q4P Q4P Q4P λc hc=>?_
  repeat' (refine Ba ?_;first|refine Q2R ?_|refine Q37 ?_|refine Q3a ?_|refine Q3t ?_|refine Q3h ?_|fail)
  refine Ba ?_;refine qj6 ([]++[(Ml.mk to_ (u') at_ tr be)]) 9 c (q43 (λ_=>Ml.z) 0 (Ml.mk to_ (u') at_ tr be)) rfl qs1 hc (by simpa using hc) (qne (λi m hm=>by simp at hm) rfl) Q4N rfl (nlr _) rfl Q4N Q4N Q4P rfl (nlr _) (λj hj=>ql7 rfl hc (λj hj=>absurd hj Q4L) hj) (λρ ρ' _=>rfl) ?_;refine Bj (u',F') ⟨hM,?_⟩;refine Bb (.plain rfl) ?_;refine Bb ⟨Q3T,Q3T,xb⟩ ?_;refine Bb xb ?_;refine Bb Q47 ?_;exact Bd
 | some q=>
  obtain⟨c,T⟩:=q;obtain⟨hc1,hlc,hT⟩:=hβ;refine Q08 ?_;refine Bp [0,1,2,3,4,5,9,10] [(6,[7]),(8,[11])] Q4Q ?_;refine Q08 ?_;refine N.callM [1] _ Q4Q (λh₂ hh=>q74 W F _ bs hs Q4L to_ at_ tr be 1 h₂ Q4z) λv ms hR=>?_
  obtain⟨u',F',hM,rfl,rfl⟩:=hR;refine⟨by simp,?_⟩;repeat' (refine Ba ?_;first|refine Q2R ?_|refine Q37 ?_|refine Q3a ?_|refine Q3t ?_|refine Q3h ?_|fail)
  refine Ba ?_;refine Bb Q4Z ?_;refine Ba ?_;refine AppN.mk1 (Ml.v (Ml.mk to_ (u') at_ tr be)) ⟨nlr _,_,rfl,rfl,λj hj=>by
   match j,hj with
   | 0,_=>rfl
   | 1,_=>rfl
   | 2,_=>rfl
   | 3,_=>rfl
   | 4,_=>rfl⟩ Q4N (by show L.length*5<=c*5;omega) Q4L (by show(L.length+1)*56<=_;omega) (mlA true c (q4g T L.length (Ml.mk to_ (u') at_ tr be))) (λh=>q16 rfl Q4L rfl) (λhr=>?_) (λhg cap hcap=>?_)
  .refine Q08 ?_;refine qj6 (L++[(Ml.mk to_ (u') at_ tr be)]) 2 c (q4g T L.length (Ml.mk to_ (u') at_ tr be)) rfl qs1 hc1 (by rw[xR];exact hr) (qne (λi m hm=>by have:=(xe.1 hm).1;rw[<-hT i m hm];exact qo1 Q4L) (qo0 _ _ _)) Q4N rfl (nlr _) Q5A Q4N Q4N Q4P rfl (nlr _) (λj hj=>ql6 (qay hj)) (λρ ρ' _=>rfl) ?_;refine Bj (u',F') ⟨hM,?_⟩;refine Bb (.plain rfl) ?_;refine Bb ⟨Q3T,Q3T,xb⟩ ?_;refine Bb xb ?_;refine Bb Q47 ?_;exact Bd
  .refine Q08 ?_;refine qj6 (L++[(Ml.mk to_ (u') at_ tr be)]) 9 cap (q43 T L.length (Ml.mk to_ (u') at_ tr be)) rfl qs1 Q4L (by rw[xR];exact hcap) (qne (λi m hm=>by have:=(xe.1 hm).1;rw[<-hT i m hm];exact qvv Q4L) (by unfold q43;rw[if_neg (Nat.lt_irrefl _),if_pos rfl])) Q4N rfl (nlr _) Q5A Q4N Q4N Q4P rfl (nlr _) (λj hj=>ql7 rfl hcap (λj hj=>qay Q4L) hj) (λρ ρ' _=>rfl) ?_;refine Bj (u',F') ⟨hM,?_⟩;refine Bb (.plain rfl) ?_;refine Bb ⟨Q3T,Q3T,xb⟩ ?_;refine Bb xb ?_;refine Bb Q47 ?_;exact Bd
theorem qs2{s:q2r}:∀i,i<[s].length->i=0\/i∈([]:List Nat):=λi hi=>.inl Q55
theorem qxq{i:Nat}{c d:Chunk}:∀l,(l=0\/l=k)->l<[(⟨i,c,airP L,d⟩:q2r)].length->∃s,[(⟨i,c,airP L,d⟩:q2r)][l]?=some s/\s.e.x≠Ext.none/\Selfish s.e.x:=λl _ hl=>by
 obtain rfl:l=0:=by simpa using hl
 exact⟨_,rfl,qnd L,qao⟩
theorem jae(L:List Ml)(i:Nat)(h:Hp)(hi:h[i]?=some (some (airP L))):qae prog 68 [xd i] h (xc (L.length:Nat)) [(i,airP L)] []:=by
 refine qaw (G:=tys) (q4h L) (q75 L) [⟨i,airP L,airP L,airP L⟩] [] [xd 0] tysOK q2p func68 Q4N (call68) ⟨hi,xb⟩ ⟨Q3R,xb⟩ Q51 Q41 xb ⟨.ptr rfl,xb⟩ qa9 ?_;intro β hβ;cases β with
 | none=>
  obtain rfl:L=[]:=hβ;refine Q0r ?_;refine qis 0 [] qs2 (λ_=>⟨_,rfl,qnd [],qao⟩) Q4N rfl (nlr _) rfl (λx hx=>by cases hx) (λx hx=>by cases hx) (λρ ρ' _=>rfl) ?_;exact Q1r
 | some q=>
  obtain⟨c,T⟩:=q;obtain⟨hc1,hlc,hT⟩:=hβ;refine Q0r ?_;refine qhz 0 [] L 1 c T qs2 qxq hc1 hlc hT Q4N rfl (nlr _) rfl Q4N Q4P rfl (nlr _) (λj hj=>ql6 (qay hj)) (λx hx=>by cases hx) (λx hx=>by cases hx) (λρ ρ' _=>rfl) ?_;exact Q1r
theorem jaf(K:Nat)(h:Hp)(hK:h[K]?=some none):qae prog 18 [] h (xd K) [(K,airP [])] []:=by
 refine qaw (G:=tys) (λ_:Unit=>True) (λ_=>[]) [] [⟨K,0,airP []⟩] [] tysOK q2p func18 Q4N (call18) xb xb xb xb Q4p xb Opens.same ?_;rintro⟨⟩ -;refine Q0r ?_;refine qis 0 [] (λi hi=>absurd hi Q4X) (λhi=>absurd hi Q4X) Q4N rfl (nlr _) rfl (λx hx=>by cases hx) (λx hx=>by cases hx) Q4J ?_;exact Q0E
open Go Go.RowKit Sx
abbrev flC(C:Nat->Int)(n:Nat)(iw ia io:Nat)(u:Value)(lost:Int):Chunk:=⟨true,16,[(0,16,.agg ⟨[xd iw,xd ia,xc (C 0),xc (C 1),xc (C 2),xc (C 3),xc (C 4),xc (C 5),xc (C 6),xc (C 7),xc (C 8),xc (C 9),xc (C 10),u,.slice (some ⟨io,0,some 0⟩) n n,xc lost]⟩)]⟩
abbrev onC(x:Ext)(n:Nat)(on:Nat->Bool):Chunk:=@Chunk.mk x true n [(0,n,.agg ⟨segL n λj=>.bool (on j)⟩)]
abbrev q8s(C:Nat->Int):Chunk:=⟨true,11,[(0,11,q58 C)]⟩
theorem ja4{p:Nat->Prop}(h0:p 0)(h1:p 1)(h2:p 2)(h3:p 3)(h4:p 4)(h5:p 5)(h6:p 6)(h7:p 7)(h8:p 8)(h9:p 9)(h10:p 10):∀j,j<11->p j:=λj hj=>by
 match j,hj with
 | 0,_=>exact h0
 | 1,_=>exact h1
 | 2,_=>exact h2
 | 3,_=>exact h3
 | 4,_=>exact h4
 | 5,_=>exact h5
 | 6,_=>exact h6
 | 7,_=>exact h7
 | 8,_=>exact h8
 | 9,_=>exact h9
 | 10,_=>exact h10
structure FS where
 C:Nat->Int
 n:Nat
 P:Nat->Int
 M:Nat->Bool
 tm:Int
 st:Int
 L:List Ml
 g:Nat->Nat×Nat
 s:Nat->NSt
 on:Nat->Bool
 lost:Int
abbrev flH(F:FS)(β:Nat×Nat):Hp:=[some (flC F.C F.n 1 6 4 (.slice (some ⟨5,0,some 0⟩) F.n β.2) F.lost),some (wcc true F.C F.n β.1 2 3 F.tm F.st),some (ptP true F.n F.P),some (mvP true F.n F.M),some (onC (q2v ndX F.n F.g F.s) F.n F.on),some (prC β.2 (prF F.g F.n)),some (airP F.L)]
def q33(F:FS)(β:Nat×Nat):Prop:=F.n<=β.1/\F.n<=β.2
abbrev flP(F:FS):Chunk:=packC (q33 F) (flH F)
variable{on:Nat->Bool}
theorem qh0{x:Ext}(h:j<n):(onC x n on).f j=.bool (on j):=by
 refine Q1b ?_;exact qcd h
theorem q76{x:Ext}{p:Nat}{b:Bool}(h:p<n):Writes (onC x n on) p 1 (.bool b) (onC x n (upd on p b)):=by
 refine⟨rfl,h,rfl,λj hj=>?_⟩;have hj:j<n:=hj;rw[qh0 hj,qh0 hj];by_cases e:j=p
 .subst e;rw[qeu,if_pos Q4L,yO];rfl
 .rw[qd8 _ _ e,if_neg Q4L]
abbrev onK(k j:Nat):Bool:=decide (j<k)
theorem qh1(k:Nat):upd (onK k) k true=onK (k+1):=funext λj=>by
 by_cases e:j=k
 .subst e;rw[qeu];exact(xg (yR _)).symm
 .rw[qd8 _ _ e];by_cases h:j<k
  .exact(xg h).trans (xg (by omega:j<k+1)).symm
  .exact(xl h).trans (xl (by omega:¬ j<k+1)).symm
theorem ql8(k:Nat)(h:k<64):qbd 4194304 (q3m (k*2)) (q3m (k*2+1)):=by
 unfold qbd q3m;rw[if_pos Q4L,if_neg Q4L];omega
theorem qb0{x:Ext}{a b:Nat->Bool}(h:∀j,j<n->a j=b j):ChunkReLe ix (onC x n a) (onC x n b):=by
 refine @ChunkReLe.mk _ _ _ ⟨.inr rfl⟩ id (nlr _) λj hj=>?_
 have hj:j<n:=hj;rw[qh0 hj,qh0 hj,h j hj];exact .plain rfl
variable{ps:Pz}
theorem qo2(C:Nat->Int)(hC:q50 C)(hcap:200<=C 10)(i b k:Nat)(hi:i<3)(g:Rz){o:Bool}{Y0:Ext}(hY:Y0=q2v ndX i g (q2x C))(h:Hp)(hb:h[b]?=some (some (@Chunk.mk Y0 o c ps)))(hk:h[k]?=some none):
  CallAll prog 21 [cfV C,xc (i:Int),xc 0,elV (q3m (i*2)) (q3m (i*2+1)) 100 0 100] h λv ms=>∃q:Nat×Nat,v=q2u q/\ms=[(b,@Chunk.mk (q2v ndX (i+1) (upd g i q) (q2x C)) o c ps)]:=by
 have e:q2x C i=q3c C (i:Int) 0 true (q3m (i*2)) (q3m (i*2+1)) 100 0 100:=if_pos hi
 have hp:=ql8 i Q4L
 have key:=qsv b k i i (i+1) g (q2x C) (q2x C i) hY Q4L (λj h1 h2=>by omega) hb hk (by rw[e];exact qzk C hC (i:Int) 0 Q4L Q4P _ _ 100 0 100 ⟨hp,by decide,by decide,by decide,by decide⟩ Q4L k h hk)
 rw[qdz] at key
 exact key
theorem qvw(C:Nat->Int)(hC:q50 C)(i b k:Nat)(hi:¬ i<3)(h64:i<64)(g:Rz){o:Bool}{Y0:Ext}(hY:Y0=q2v ndX i g (q2x C))(h:Hp)(hb:h[b]?=some (some (@Chunk.mk Y0 o c ps)))(hk:h[k]?=some none):
  CallAll prog 21 [cfV C,xc (i:Int),xc 0,elV 0 0 0 0 0] h λv ms=>∃q:Nat×Nat,v=q2u q/\ms=[(b,@Chunk.mk (q2v ndX (i+1) (upd g i q) (q2x C)) o c ps)]:=by
 have e:q2x C i=q3c C (i:Int) 0 false 0 0 0 0 0:=if_neg hi
 have key:=qsv b k i i (i+1) g (q2x C) (q2x C i) hY Q4L (λj h1 h2=>by omega) hb hk (by rw[e];exact qzj C hC (i:Int) 0 Q4L Q4P k h hk)
 rw[qdz] at key
 exact key
theorem q18(C:Nat->Int)(hC:q50 C)(hm:q51 C)(n:Nat)(hn:C 0=(n:Int))(h8:n<=8)(hcap:200<=C 10)(K K2:Nat)(hKK:K≠K2)(h:Hp)(hK:h[K]?=some none)(hK2:h[K2]?=some none):
  CallAll prog 11 [q58 C] h λv ms=>∃g:Rz,v=.tuple #[xd K,xc 0]/\ms=[(K,flP ⟨C,n,q3m,λ_=>false,0,0,[],g,q2x C,λ_=>true,0⟩),(K2,q8s C)]:=by
 have hn0:1<=n/\n<=64:=by have:=hm.1;omega
 have key:=qar (G:=tys) (h:=h) (vs:=[q58 C]) (λ_:Unit=>True) (λ_=>[]) (α:=Nat->Nat×Nat) (λκ=>True) (λκ=>.tuple #[xd K,.int .i64 0]) [] (λκ=>[]) (λκ=>[⟨K,9,flP ⟨C,n,q3m,λ_=>false,0,0,[],κ,q2x C,λ_=>true,0⟩⟩,⟨K2,0,q8s C⟩]) [q58 C] tysOK q2p func11 Q4N (call11) xb xb (λκ _=>trivial) xb xb (λκ _=>⟨⟨hK,rfl,.inr qao,by simp[hKK]⟩,⟨hK2,rfl,.inl (by show 0<11;decide),by simp⟩,xb⟩) ⟨.plain rfl,xb⟩ Opens.same ?_
 .exact Q2s
 rintro⟨⟩ -
 repeat' (refine Ba ?_;first|refine Q2R ?_|refine Q31 ?_|fail)
 refine Ba ?_
 refine Bg (q91 C 1 n _ hm hn Q4N Q4N Q4N) λv ms hR=>?_
 obtain⟨ps,hps,rfl,rfl⟩:=hR
 repeat' (refine Ba ?_;first|refine Q2R ?_|refine Bc (jaf 4 _ Q4N) ?_|refine MakeN.mk n n hn hn (by show 1*n<=_;omega) Q4L (x6 n).symm ?_|fail)
 refine Ba ?_
 refine Bo (α:=Option (Nat×Nat×(Rz))) (λx=>match x with
  | none=>True
  | some s=>1<=s.1/\s.1<=n/\s.1<=s.2.1) (λx=>match x with
  | none=>n
  | some s=>n-s.1) (λx=>match x with
  | none=>[(24,.int .i64 0)]
  | some s=>[(24,.int .i64 (s.1:Int))]) (λx=>match x with
  | none=>[(8,onC Ext.none n (onK 0))]
  | some s=>[(8,onC (q2v ndX s.1 s.2.2 (q2x C)) n (onK s.1)),(9,flC C n 1 4 8 (.slice (some ⟨10,0,some 0⟩) s.1 s.2.1) 0),(10,prC s.2.1 (prF s.2.2 s.1))]) none [(0,0),(1,1),(2,2),(3,3),(4,4),(8,8),(9,9)] trivial ?_ ?_
 .exact Q03
 intro x hx
 cases x with
 | none=>
  obtain⟨z,hz⟩:∃z:Nat,z=0:=⟨0,rfl⟩;repeat' (refine Ba ?_;first|refine Q2R ?_|refine Q35 ?_|refine Be Q5H ?_|refine Bc (qj2 C n ps.cap 1 2 3 q3m (λ_=>false) 0 0 true true true 0 _ Q4N Q4N Q4N Q4L) ?_|refine Bc (qsh _ _ 10 _ (ql8 0 Q4L) Q4P) ?_|fail)
  refine Q2K ?_;repeat' (refine Ba ?_;first|refine Q2R ?_|refine Bi z 1 (by rw[hz];rfl) Q4L ?_|fail)
  refine Ba ?_;refine qbq [8,5] _ Q4Z (λh₂ hh=>qo2 C hC hcap 0 8 5 Q4P (λ_=>(0,0)) (qim ndX (λ_=>(0,0)) (q2x C)).symm h₂ Q4y Q4d) λv ms hR=>?_
  obtain⟨q,rfl,rfl⟩:=hR;refine⟨by simp,?_⟩;repeat' (refine Ba ?_;first|refine Q2R ?_|refine Q3m ?_|fail)
  refine Ba ?_;refine App0N.mk1 (.agg ⟨[q2u q]⟩) (qd2 rfl rfl) Q4P Q4P Q4P λcap hcap=>?_
  repeat' (refine Ba ?_;first|refine Q2R ?_|refine Q3h ?_|refine N.store _ (q76 Q4L) ?_|fail)
  refine Ba ?_;refine Bk (α:=Option (Nat×Nat×(Rz))) (some (0+1,cap,upd (λ_=>(0,0)) 0 q)) [(0,0),(1,1),(2,2),(3,3),(4,4),(8,8),(9,9),(21,10)] ⟨⟨by show 1<=_;omega,by show _<=n;omega,by show _<=_;omega⟩,by show n-1<n;omega⟩ ?_;have hon:onK (0+1)=upd (onK 0) 0 true:=(qh1 _).symm;have hon:onK (0+1)=upd (onK 0) z true:=by rw[hz];exact hon
  repeat' (refine Ba ?_;first|exact Bd|refine Q3y ?_|refine Q32 ?_|refine Q3i ?_|refine Q33 ?_|refine Bb (@ChunkReLe.mk _ _ _ ⟨.inr rfl⟩ id (nlr _) (nzj)) ?_|refine Q34 ?_|refine Bb (qa6 (qaz ek) rfl) ?_|fail)
 | some s=>
  obtain⟨k,cap,g⟩:=s;obtain⟨i1,i2,i3⟩:=hx;have i1:1<=k:=i1;have i2:k<=n:=i2;have i3:k<=cap:=i3;by_cases hk:k<n
  .have ek:((k+1:Nat):Int)=IntKind.i64.wrap ((k:Int)+1):=by rw[q23 _ Q4L Q4L];omega
   by_cases h3:k<3
   .refine Q0k ?_;refine qbq [8,5] _ Q4Z (λh₂ hh=>qo2 C hC hcap k 8 5 h3 g rfl h₂ Q4y Q4d) λv ms hR=>?_
    exact Q10
   .refine Q0k ?_;refine qbq [8,5] _ Q4Z (λh₂ hh=>qvw C hC k 8 5 h3 Q4L g rfl h₂ Q4y Q4d) λv ms hR=>?_
    exact Q10
  .obtain rfl:k=n:=by omega
   refine Q19 ?_;refine qgh (ok:=q33 ⟨C,k,q3m,λ_=>false,0,0,[],g,q2x C,λ_=>true,0⟩) (hB:=flH ⟨C,k,q3m,λ_=>false,0,0,[],g,q2x C,λ_=>true,0⟩) (ps.cap,cap) 9 [(0,9),(1,1),(2,2),(3,3),(4,8),(5,10),(6,4)] [0] (λl i _ hl=>absurd hl (xO i)) (λi hi=>absurd hi (xO i)) ⟨by have:=hps.1.2.2.1;have:=hps.2;show k<=ps.cap;omega,i3⟩ rfl ⟨_,rfl⟩ rfl rfl ?_ (λk hk l i hm'=>?_) (λk hk d hd l hl=>?_) (λρ ρ' ha=>by have:=ha 9 ⟨_,rfl⟩;simp[den,den2,den1,den0,q24,this]) (by first|(show 9<11;decide)|(show 9<12;decide)|(show 9<14;decide)|(show 9<15;decide)|(show 9<16;decide)|(show 9<17;decide)|simp) ?_
   .intro l d hl
    match l,hl with
    | 0,hl=>
     obtain rfl:_=d:=by simpa using hl
     exact⟨9,_,rfl,rfl,rfl,nlr _,Q4R,.inl rfl,.inl Q5N⟩
    | 1,hl=>
     obtain rfl:_=d:=by simpa using hl
     exact⟨1,_,rfl,rfl,rfl,nlr _,Q4Y,.inl rfl,.inl (by show 0<15;decide)⟩
    | 2,hl=>
     obtain rfl:_=d:=by simpa using hl
     exact⟨2,_,rfl,rfl,rfl,nlr _,(qbk (λ_ _=>rfl) λ_ _=>rfl).re,.inl rfl,.inl (by show 0<k*2;omega)⟩
    | 3,hl=>
     obtain rfl:_=d:=by simpa using hl
     exact⟨3,_,rfl,rfl,rfl,nlr _,(qbk (λ_ _=>rfl) λ_ _=>rfl).re,.inl rfl,.inl (by show 0<k;omega)⟩
    | 4,hl=>
     obtain rfl:_=d:=by simpa using hl
     exact⟨8,_,rfl,rfl,rfl,nlr _,(qb0 λj hj=>xg hj).re,.inr rfl,.inl (by show 0<k;omega)⟩
    | 5,hl=>
     obtain rfl:_=d:=by simpa using hl
     exact⟨10,_,rfl,rfl,rfl,nlr _,pr_ren.re,.inl rfl,.inl (by show 0<cap;omega)⟩
    | 6,hl=>
     obtain rfl:_=d:=by simpa using hl
     exact⟨4,_,rfl,rfl,rfl,nlr _,nzj,.inr rfl,.inr qao⟩
   .obtain rfl:=xP.1 hk;exact Q1e
   .obtain rfl:=xP.1 hk;obtain rfl:q8s C=d:=by simpa using hd
    generalize qa7 _ _ _ _ _=HH;exact ja4 (p:=λj=>Safe1 HH (Chunk.f (q8s C) j)) xb xb xb xb xb xb xb xb xb xb xb l hl
   repeat' (refine Ba ?_;first|refine Q2R ?_|exact Bd|refine Bb xb ?_|refine Bj g ⟨xb,?_⟩|refine Bb (.tuple Q3Y) ?_|refine Bb ⟨Q4D,⟨xr _,_,rfl,λh=>h,nlr _,(by first|(refine ja4 ?_ ?_ ?_ ?_ ?_ ?_ ?_ ?_ ?_ ?_ ?_<;>exact .plain rfl)|fail)⟩,xb⟩ ?_|refine Bb ⟨xb,.inr ⟨_,rfl,rfl⟩,.inl rfl,xb⟩ ?_|fail)
   done
theorem qs3{v:Value}(h:qaq v=true){F:Nat->Prop}:∀ρ ρ',AgreeOn F ρ ρ'->den ρ' v=den ρ v:=λρ ρ' _=>by rw[qa3 h,qa3 h]
open Go Go.RowKit Sx
theorem Made.len{F':List By}(h:Made F bs u F'):bs.length=uN u:=by
 cases h with
 | nil h=>subst h;rfl
 | new hb=>rfl
theorem get_set{x:Nat}{y:Ml}(hT:∀i m,L[i]?=some m->T i=m){z:Ml}(hz:z=y):∀i m,(L.set x y)[i]?=some m->q4g T x z i=m:=λi m hm=>by
 subst hz;by_cases e:x=i
 .subst e;have hl:=(xe.1 hm).1;rw[List.length_set] at hl;rw[xq hl] at hm;rw[qo0];simpa using hm
 .rw[xo e] at hm;rw[qo1 (λh=>e h.symm)];exact hT i m hm
open Go Go.RowKit Sx
theorem qvx(L:List Ml)(to_ at_ tr:Int)(be:Bool)(u:Option Sl)(hl:512<=L.length)(i:Nat)(h:Hp)(hi:h[i]?=some (some (airP L))):qae prog 167 [xd i,mailV to_ u at_ tr be] h (.bool false) [(i,airP (L))] []:=by
 refine qaw (G:=tys) (q4h L) (q75 L) [⟨i,airP L,airP L,airP (L)⟩] [] [xd 0,mailV to_ u at_ tr be] tysOK q2p func167 Q4N (call167) ⟨hi,xb⟩ ⟨Q3R,xb⟩ Q51 Q41 xb ⟨.ptr rfl,qoz _ _ _ _ _,xb⟩ qa9 ?_;intro β hβ;cases β with
 | none=>
  obtain rfl:L=[]:=hβ;exact absurd hl Q4P
 | some r=>
  obtain⟨c,T⟩:=r;obtain⟨hc1,hlc,hT⟩:=hβ;repeat' (refine Ba ?_;first|refine Q2R ?_|refine Q37 ?_|refine Q3g ?_|refine Q3a ?_|refine Q3t ?_|fail)
  refine Ba ?_;refine qhz 0 [] (L) 1 c (T) qs2 qxq hc1 hlc hT Q4N rfl (nlr _) rfl Q4N Q4P rfl (nlr _) (λj hj=>ql6 (qay hj)) (λx hx=>by cases hx) (λx hx=>by cases hx) (qs3 rfl) ?_;exact Q1r
end Go.Proofs.YtggfpcfkbilkmaaGreatDoor
