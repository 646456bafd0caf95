/-
  The walks of truth: the methods that read.
-/
import Derived.Laws.ComplexArith
import Derived.Test.YtggfpcfkbilkmaaGreatDoorD5
set_option linter.unusedVariables false
set_option linter.unusedSimpArgs false
set_option maxRecDepth 100000
set_option maxHeartbeats 20000000
open Go.IntKind
open Go.Proofs.Tryz
namespace Go.Proofs
section
variable{Z Y:Prop}
theorem Q02(h:Z:=by repeat' (refine Ba ?_;first|exact Bd|refine Q3x ?_|refine Q2U ?_|refine Q3b ?_|refine Q2V ?_|refine Bb (@ChunkReLe.mk _ _ _ ⟨.inr rfl⟩ id (nlr _) (nzj)) ?_|refine Q2Y ?_|refine Bb (qa4 (qax ek) rfl) ?_|fail)):Z:=h
theorem Q07(k:Y)(h:Wr Y->Z:=by
 intro kQ;repeat' (refine Ba ?_;first|refine Q2J ?_|refine Q2W ?_|refine Q35 ?_|refine Q3s ?_|refine Q3a ?_|fail)
 refine Ba ?_;exact kQ.o):Z:=h ⟨k⟩
theorem Q0d(k:Y)(h:Wr Y->Z:=by
 intro kQ;repeat' (refine Ba ?_;first|refine Q2J ?_|refine Q3a ?_|refine N.store _ (q9n Q4P) ?_|fail)
 refine Ba ?_;exact kQ.o):Z:=h ⟨k⟩
theorem Q0e(k:Y)(h:Wr Y->Z:=by
 intro kQ;repeat' (refine Ba ?_;first|refine Q2J ?_|refine Q3j ?_|refine Q3r ?_|fail)
 refine Ba ?_;exact kQ.o):Z:=h ⟨k⟩
theorem Q0g(h:Z:=by
 refine qah (G:=tys) w tysOK mixed func236 Q4R Q4S Q4Q ?_;repeat' (refine Ba ?_;first|refine Q2J ?_|refine Q2R ?_|with_reducible refine Bn (λhb=>?_) (λhb=>?_)|refine Bc (qkl _ _) ?_|refine Bc (q9j _ _ _) ?_|refine Bc (cEMay _ _ _ _ _ _) ?_|fail)
 all_goals
  refine jdf ?_
  simp only[xu,xD,xC,false_iff,true_iff,iff_true,iff_false,reduceCtorEq,yf,xv,yg,yh,bne_iff_ne,ne_eq,bne_eq_false_iff_eq] at *
  try first|omega|exact⟨λhh=>⟨by assumption,by assumption,by assumption,hh⟩,λhh=>hh.2.2.2⟩):Z:=h
theorem Q0j(k:Y)(h:Wr Y->Z:=by
 intro kQ;repeat' (refine Ba ?_;first|refine Q2J ?_|refine Bf Q5M ?_|refine Q3j ?_|refine Q3r ?_|refine Bc (qki C n ps.cap 1 2 3 q4s (λ_=>false) 0 0 true true true k _ Q4R Q4R Q4R Q4P) ?_|refine Bc (qtc _ _ 10 _ (qi6 k Q4P) Q4T) ?_|fail)
 refine Q2D ?_;repeat' (refine Ba ?_;first|refine Q2J ?_|refine Bi k 1 rfl Q4P ?_|fail)
 refine Ba ?_;exact kQ.o):Z:=h ⟨k⟩
theorem Q0k(k:Y)(h:Wr Y->Z:=by
 intro kQ;repeat' (refine Ba ?_;first|refine Q2J ?_|refine Q2R ?_|fail)
 refine Ba ?_;exact kQ.o):Z:=h ⟨k⟩
theorem Q0n(h:Z:=by
 repeat' (refine Ba ?_;first|refine Q2J ?_|refine Bf ho ?_|refine Be (eq_false_of_ne_true ho) ?_|refine Q3j ?_|fail)
 refine Ba ?_;refine N.next (α:=Nat) (m+1) ⟨hm8,by show 8-(m+1)<8-m;omega⟩ ?_;exact Q15):Z:=h
theorem Q0v(h:Z:=by
 have e2:toX a b=0:=by unfold toX;rw[e1];rfl
 have e3:toY a b=0:=by unfold toY;rw[e1];rfl
 rw[e1,e2,e3];clear e1 e2 e3
 go_enter func160,Tryz.ntmps160
 go_wp2_with (go_at_call 201;refine(qh4 _ _).mono ?_;rintro e w' ⟨rfl,rfl⟩)
 exact bodyPost_ret (v:=.tuple #[.agg #[xc 0,xc 0],.bool false]) (by simp[results,Tryz.results160,go_sem]) rfl ⟨rfl,Q5t⟩):Z:=h
theorem Q0A(h:Z:=by repeat' (refine Ba ?_;first|refine Q2J ?_|exact Bd|refine Q36 ?_|refine Bb (qa4 (qax ek) rfl) ?_|refine Bb qgi ?_|refine Bb (.one .quo) ?_|refine Bb (.one (.any (λ_ _=>rfl) λ_ _=>rfl)) ?_|fail)):Z:=h
theorem Q0C(h:Z:=by repeat' (refine Ba ?_;first|refine Q2J ?_|exact Bd|refine Q36 ?_|refine Bb (qa4 (qax ek) rfl) ?_|refine Bb (qa4 (qax es) rfl) ?_|refine Bb qgi ?_|refine Bb (.one .quo) ?_|fail)):Z:=h
theorem Q0H(h:Z:=by repeat' (refine Ba ?_;first|refine Q2J ?_|exact Bd|refine Q36 ?_|refine Bb (qa4 (qax ek) rfl) ?_|refine Bb qgi ?_|refine Bb (.one .quo) ?_|fail)):Z:=h
theorem Q0L(h:Z:=by exact Q27):Z:=h
theorem Q0S(k:Y)(h:Wr Y->Z:=by
 intro kQ;repeat' (refine Ba ?_;first|refine Q2J ?_|refine Q3j ?_|refine Bb (by rw[e8];omega) ?_|fail)
 refine Ba ?_;exact kQ.o):Z:=h ⟨k⟩
theorem Q0V(h:Z:=by
 intro X ρ w2 xs H hx;rcases key X ρ w2 xs H hx with ⟨v,w',hr',u,ms,ρ',⟨κ,hκ,rfl,rfl⟩,ha⟩|⟨hr',hcl⟩
 .exact .inl ⟨v,w',hr',_,_,ρ',⟨κ,hκ,rfl,rfl⟩,ha⟩
 .refine .inr ⟨hr',hcl.mono ?_⟩;rintro e w' ⟨y,he,u,ms,ρ',⟨κ,hκ,rfl,rfl⟩,ha⟩;exact⟨y,he,_,_,ρ',⟨κ,hκ,rfl,rfl⟩,ha⟩):Z:=h
theorem Q10(h:Z:=by
 obtain⟨q,rfl,rfl⟩:=hR;refine⟨by simp,?_⟩;repeat' (refine Ba ?_;first|refine Q2J ?_|refine Q3g ?_|fail)
 refine Ba ?_;refine AppN.mk1 (.agg ⟨[q3z q]⟩) (qd8 rfl rfl) rfl (by show k*1<=cap;omega) Q4P (by show(k+1)*8<=_;omega) (prC cap (prF (upd g k q) (k+1))) (λh=>jby rfl (show k+1<=cap from h) (xU k)) (λhr=>?_) (λhg cap2 hcap2=>?_)
 .refine Q0d ?_;refine Bl (α:=Option (Nat×Nat×(Rz))) (some (k+1,cap,upd g k q)) [(0,0),(1,1),(2,2),(3,3),(4,4),(8,8),(9,9),(10,10)] ⟨⟨by show 1<=_;omega,by show _<=n;omega,by show _<=_;omega⟩,by show n-(k+1)<n-k;omega⟩ ?_;exact Q2F
 .refine Q0d ?_;refine Bl (α:=Option (Nat×Nat×(Rz))) (some (k+1,cap2,upd g k q)) [(0,0),(1,1),(2,2),(3,3),(4,4),(8,8),(9,9),(22,10)] ⟨⟨by show 1<=_;omega,by show _<=n;omega,by show _<=_;omega⟩,by show n-(k+1)<n-k;omega⟩ ?_;exact Q2F):Z:=h
theorem Q15(h:Z:=by repeat' (refine Ba ?_;first|refine Q2J ?_|exact Bd|refine Bb (congrArg (Value.int .u32) es) ?_|refine Bb (congrArg (Value.int .i64) em) ?_|refine Bb (ChunkLe.refl _) ?_|fail)):Z:=h
theorem Q1l(h:Z:=by
 refine Bb (.plain rfl) ?_;refine Bb ⟨Q3R,xb⟩ ?_;exact Q0L):Z:=h
theorem Q1m(k:Y)(h:Wr Y->Z:=by
 intro kQ;refine qah (G:=tys) w tysOK mixed func203 Q4R Q4S Q4Q ?_;exact kQ.o):Z:=h ⟨k⟩
theorem Q1v(h:Z:=by
 go_enter func201,Tryz.ntmps201
 go_wp2
 go_ret2
 exact⟨jdb HN.out HB.out,rfl⟩):Z:=h
theorem Q1M(h:Z:=by
 simp only[xf,Prod.mk.injEq,xA,or_false] at hm;omega):Z:=h
theorem Q2l(h:Z:=by
 refine qal key λv ms hR=>?_
 obtain⟨κ,_,rfl,rfl⟩:=hR;exact⟨κ,rfl,rfl⟩):Z:=h
theorem Q2D(k:Y)(h:Wr Y->Z:=by
 intro kQ;refine Ba ?_;refine Bp [0,1,2,3,4,5,6,7,8,9,10,11,12,16,17,19] [(13,[14]),(15,[18,20])] Q4U ?_;exact kQ.o):Z:=h ⟨k⟩
theorem Q2F(h:Z:=by
 have hon:onK (k+1)=upd (onK k) k true:=(qia _).symm;skip;exact Q02):Z:=h
theorem Q2U(k:Y)(h:Wr Y->Z:=by intro kQ;(first|refine Bb ⟨id,nlr _,Q4W⟩ ?_|fail);exact kQ.o):Z:=h ⟨k⟩
theorem Q2V(k:Y)(h:Wr Y->Z:=by intro kQ;(first|refine Bb ⟨id,nlr _,Q52⟩ ?_|fail);exact kQ.o):Z:=h ⟨k⟩
theorem Q2Z(k:Y)(h:Wr Y->Z:=by intro kQ;(first|refine Bc (jda c n cap _ _ _ P M tm st _ _ _ _ _ Q4R Q4R Q4R) ?_|refine Be (by simp only[xu,xD,Bool.not_eq_eq_eq_not,yO,yC];omega) ?_|fail);exact kQ.o):Z:=h ⟨k⟩
theorem Q30(k:Y)(h:Wr Y->Z:=by intro kQ;(first|refine Bi 1 0 Q4T Q4T ?_|refine Bi 2 0 Q4T Q4T ?_|refine Bi 3 0 Q4T Q4T ?_|fail);exact kQ.o):Z:=h ⟨k⟩
theorem Q31(k:Y)(h:Wr Y->Z:=by intro kQ;(first|refine Bi 1 0 Q4T Q4T ?_|refine Bi 2 0 Q4T Q4T ?_|fail);exact kQ.o):Z:=h ⟨k⟩
theorem Q3d(k:Y)(h:Wr Y->Z:=by intro kQ;(first|with_reducible (first|refine Bm _ (qpm _ _ _ _ _ _) ?_|refine Bm _ (jbv 0 _ _ (q56 _ _) (q57 _ _)) ?_)|refine Bm _ (qyr _ _ hr hs) ?_|with_reducible refine Bc (cTOf _ _ _) ?_|refine Bc (qpo _ _ _ _ _ _ (q56 _ _) (q57 _ _) Q4P Q4P hc2) ?_|refine Bc (qpo _ _ _ _ _ _ wr ws Q4P Q4P hc3) ?_|with_reducible refine Bc (qi4 _ _ _) ?_|fail);exact kQ.o):Z:=h ⟨k⟩
theorem Q3g(k:Y)(h:Wr Y->Z:=by intro kQ;(first|refine Bb Q53 ?_|fail);exact kQ.o):Z:=h ⟨k⟩
theorem Q3j(k:Y)(h:Wr Y->Z:=by intro kQ;(first|refine Bf (xg Q4P) ?_|fail);exact kQ.o):Z:=h ⟨k⟩
theorem Q3k(k:Y)(h:Wr Y->Z:=by intro kQ;(first|refine Bq 5 ?_|refine Bi 0 0 Q4T Q4T ?_|fail);exact kQ.o):Z:=h ⟨k⟩
theorem Q3s(k:Y)(h:Wr Y->Z:=by intro kQ;(first|refine N.op (qck rfl rfl ⟨_,rfl,_,underlying30⟩) ?_|fail);exact kQ.o):Z:=h ⟨k⟩
theorem Q3u(k:Y)(h:Wr Y->Z:=by intro kQ;(first|refine Bc (qkl _ _) ?_|refine Bc (q9j _ _ _) ?_|refine Bf (xg hs) ?_|refine Bf (xg hb) ?_|refine Bf (xg hq) ?_|refine Bf (xg hst) ?_|refine Bm _ (qtw _ _) ?_|fail);exact kQ.o):Z:=h ⟨k⟩
theorem Q3v(k:Y)(h:Wr Y->Z:=by intro kQ;(first|refine Bb xb ?_|refine Bb ⟨⟨.inr ⟨_,rfl,rfl⟩,xb⟩,xb⟩ ?_|fail);exact kQ.o):Z:=h ⟨k⟩
theorem Q3x(k:Y)(h:Wr Y->Z:=by intro kQ;(first|refine Bb (qbl (λ_ _=>rfl) λj _=>qch j) ?_|refine Bb pr_ren ?_|refine Bb (q9g rfl (nzj) Q4P) ?_|refine Bb (q9g rfl (λj hj=>qaw Q4P) Q4P) ?_|refine Bb (qby λj _=>congrFun hon j) ?_|fail);exact kQ.o):Z:=h ⟨k⟩
theorem Q3A(k:Y)(h:Wr Y->Z:=by intro kQ;(first|refine Bb ⟨⟨_,rfl,id,nlr _,(by first|(refine jaa ?_ ?_ ?_ ?_ ?_ ?_ ?_ ?_ ?_ ?_ ?_ ?_ ?_ ?_ ?_<;>first|exact Re1.plain rfl|exact Re1.slice rfl|exact qa0 (by rw[e1]))|fail)⟩,xb⟩ ?_|fail);exact kQ.o):Z:=h ⟨k⟩
theorem Q3B(k:Y)(h:Wr Y->Z:=by intro kQ;(first|refine Bb (.plain rfl) ?_|fail);exact kQ.o):Z:=h ⟨k⟩
theorem Q3J(k:Y)(h:Wr Y->Z:=by intro kQ;(first|refine Bi p 1 rfl hp ?_|refine Be (qpp hsp Q5h) ?_|refine Be (qpp hsq Q5h) ?_|fail);exact kQ.o):Z:=h ⟨k⟩
theorem Q3R(h:Z:=by first|exact ⟨_,rfl,λh=>h,nlr _,nzj⟩|fail):Z:=h
theorem Q3W(h:Z:=by first|exact ⟨⟨λh=>Q5j,nlr _,qen rfl rfl⟩,⟨λh=>Q5j,nlr _,qbi⟩,⟨λh=>Q5j,nlr _,qbj⟩,xb⟩|fail):Z:=h
theorem Q44(h:Z:=by first|exact ⟨λh=>Q5j,nlr _,qen rfl rfl⟩|fail):Z:=h
theorem Q45(h:Z:=by first|exact ⟨⟨λh=>⟨rfl,nlr _⟩,nlr _,qee⟩,xb⟩|fail):Z:=h
theorem Q46(h:Z:=by first|exact ⟨λh=>Q5j,nlr _,qbj⟩|fail):Z:=h
theorem Q47(h:Z:=by first|exact ⟨λh=>Q5j,nlr _,qbi⟩|fail):Z:=h
theorem Q48(h:Z:=by first|exact ⟨⟨.inr ⟨_,rfl,rfl⟩,.inr ⟨_,rfl,rfl⟩,xb⟩,xb⟩|fail):Z:=h
theorem Q4g(h:Z:=by first|exact (hh 5 Q50).trans rfl|fail):Z:=h
theorem Q4h(h:Z:=by first|exact (hh 0 Q50).trans rfl|fail):Z:=h
theorem Q4p(h:Z:=by first|exact ⟨⟨_,rfl,λh=>h,nlr _,qee⟩,xb⟩|fail):Z:=h
theorem Q4s(h:Z:=by first|exact (hh 8 Q50).trans rfl|fail):Z:=h
theorem Q4y(h:Z:=by first|exact ⟨.ptr rfl,.plain rfl,.plain rfl,.plain rfl,xb⟩|fail):Z:=h
theorem Q4A(h:Z:=by first|exact (hh 1 Q50).trans rfl|fail):Z:=h
theorem Q4B(h:Z:=by first|exact ⟨.inr ⟨rfl,rfl⟩,.inr ⟨rfl,rfl⟩,xb⟩|fail):Z:=h
theorem Q4W(h:Z:=by first|(refine q7l ?_ ?_ ?_ ?_ ?_ ?_ ?_ ?_ ?_ ?_ ?_ ?_ ?_ ?_ ?_ ?_<;>first|exact Re1.plain rfl|exact Re1.ptr rfl|exact Re1.slice rfl)|fail):Z:=h
theorem Q4Y(h:Z:=by simp only[xP,qb8,yx,List.length_nil];omega):Z:=h
theorem Q52(h:Z:=by first|(refine jaa ?_ ?_ ?_ ?_ ?_ ?_ ?_ ?_ ?_ ?_ ?_ ?_ ?_ ?_ ?_<;>first|exact Re1.plain rfl|exact Re1.ptr rfl|exact Re1.slice rfl)|fail):Z:=h
theorem Q5t(h:Z:=by repeat (first|exact Below.refl _ _|exact hB|apply Below.drew|refine Below.alloc ?_ Q4V _|refine Below.setCell ?_ Q4V _)):Z:=h
theorem Q5G(h:Z:=by rw[xP];rfl):Z:=h
theorem Q5R(h:Z:=by rw[h2];decide):Z:=h
end
end Go.Proofs

namespace Go.Proofs.YtggfpcfkbilkmaaGreatDoor
open Go Go.RowKit Sx
abbrev wcc(o:Bool)(c:Nat->Int)(n cap j k:Nat)(tm st:Int):Chunk:=⟨o,15,[(0,15,.agg #[xc (c 0),xc (c 1),xc (c 2),xc (c 3),xc (c 4),xc (c 5),xc (c 6),xc (c 7),xc (c 8),xc (c 9),xc (c 10),.slice (some ⟨j,0,some 0⟩) n cap,.slice (some ⟨k,0,some 0⟩) n n,xc tm,xc st])]⟩
variable{ix:Lz}{n cap k:Nat}
theorem qen{o o':Bool}{c:Nat->Int}{j j' k':Nat}{tm st:Int}(h1:ixK ix j'=some j)(h2:ixK ix k'=some k):qb4 ix (wcc o c n cap j k tm st) (wcc o' c n cap j' k' tm st):=
 (by first|(refine jaa ?_ ?_ ?_ ?_ ?_ ?_ ?_ ?_ ?_ ?_ ?_ ?_ ?_ ?_ ?_<;>first|exact Re1.plain rfl|exact Re1.slice Q5h)|fail)
variable{P:Nat->Int}
theorem qbi{o o':Bool}:qb4 ix (ptP o n P) (ptP o' n P):=λj hj=>by
 have hj:j<n*2:=hj;rw[qbn hj,qbn hj];exact .plain rfl
variable{M:Nat->Bool}
theorem qbj{o o':Bool}:qb4 ix (mvP o n M) (mvP o' n M):=λj hj=>by
 have hj:j<n:=hj;rw[qbn hj,qbn hj];exact .plain rfl
variable{p:Nat}
theorem qkh{o:Bool}(h:p<n):Reads (ptP o n P) (p*2) true (1*2) (.agg ⟨[xc (P (p*2)),xc (P (p*2+1))]⟩):=
 ⟨by show p*2+1*2<=n*2;omega,_,rfl,rfl,λj hj=>by
  match j,hj with
  | 0,_=>rw[qbn Q4P];rfl
  | 1,_=>rw[qbn Q4P];rfl⟩
theorem jda(c:Nat->Int)(n cap i j k:Nat)(P:Nat->Int)(M:Nat->Bool)(tm st:Int)(o1 o2 o3:Bool)(x:Int)(h:Hp)(hi:h[i]?=some (some (wcc o1 c n cap j k tm st)))(hj:h[j]?=some (some (ptP o2 n P)))(hk:h[k]?=some (some (mvP o3 n M)))  :
  qae prog 43 [xd i,xc x] h (.bool (decide (0<=x/\x<(n:Int)))) [] [i,j,k]:=by
 refine qau (G:=tys) [⟨i,_,wcc false c n cap 1 2 tm st,⟨false,0,[]⟩⟩,⟨j,_,ptP false n P,⟨false,0,[]⟩⟩,⟨k,_,mvP false n M,⟨false,0,[]⟩⟩] [] [xd 0,xc x] tysOK mixed func43 Q4R (call43) ⟨hi,hj,hk,xb⟩ Q3W Q55 xb Q3Y ?_
 repeat' (refine Ba ?_;first|refine Q2J ?_|with_reducible refine Bn (λhb=>?_) (λhb=>?_)|fail)
 all_goals
  refine Bb (qpg (q4w ?_).symm rfl) ?_
  .simp only[xu,xD,xC,false_iff,true_iff,iff_true,iff_false,reduceCtorEq,yf,xv,yg,yh] at *;omega
  .repeat' (refine Ba ?_;first|refine Q2J ?_|refine Bb xb ?_|exact Bd|fail)
theorem qki(c:Nat->Int)(n cap i j k:Nat)(P:Nat->Int)(M:Nat->Bool)(tm st:Int)(o1 o2 o3:Bool)(p:Nat)(h:Hp)(hi:h[i]?=some (some (wcc o1 c n cap j k tm st)))(hj:h[j]?=some (some (ptP o2 n P)))(hk:h[k]?=some (some (mvP o3 n M)))(hp:p<n):
  qae prog 19 [xd i,xc (p:Int)] h (.tuple #[.agg #[xc (P (p*2)),xc (P (p*2+1))],.bool true]) [] [i,j,k]:=by
 refine qau (G:=tys) [⟨i,_,wcc false c n cap 1 2 tm st,⟨false,0,[]⟩⟩,⟨j,_,ptP false n P,⟨false,0,[]⟩⟩,⟨k,_,mvP false n M,⟨false,0,[]⟩⟩] [] [xd 0,xc (p:Int)] tysOK mixed func19 Q4R (call19) ⟨hi,hj,hk,xb⟩ Q3W Q55 xb Q3Y ?_
 repeat' (refine Ba ?_;first|refine Q2J ?_|refine Q2Z ?_|refine Bi p 1 rfl hp ?_|refine Bk _ (qkh hp) ?_|refine Bb xb ?_|exact Bd|refine Q3B ?_|fail)
def q6f(p:Nat)(b m:Int):Int:=(b*(p:Int))%(2*m+1)-m
theorem q0r(p:Nat)(b m:Int)(hm:0<=m): -m<=q6f p b m/\q6f p b m<=m:=by
 unfold q6f;have h1:=Int.emod_nonneg (b*(p:Int)) (show 2*m+1≠0 by omega);have h2:=Int.emod_lt_of_pos (b*(p:Int)) (show 0<2*m+1 by omega);omega
theorem q2t{b m:Int}(hp:p<64)(hb:0<=b/\b<=13)(hm:0<=m/\m<=1000):(IntKind.i64.wrap (b*(p:Int))).tmod (IntKind.i64.wrap (IntKind.i64.wrap (2*m)+1))-m=q6f p b m/\0<=b*(p:Int)/\b*(p:Int)<=13*63:=by
 have k0:0<=b*(p:Int):=x7 Q4P Q4P;have k1:b*(p:Int)<=13*63:=Int.mul_le_mul Q4P Q4P Q4P Q4P;refine⟨?_,k0,k1⟩;rw[q36 (2*m) Q4P Q4P,q36 (2*m+1) Q4P Q4P,q36 (b*(p:Int)) Q4P Q4P,Int.tmod_eq_emod_of_nonneg k0];have h1:=Int.emod_nonneg (b*(p:Int)) (show 2*m+1≠0 by omega);rfl
theorem q2u(p:Nat)(b m:Int)(hp:p<64)(hb:0<=b/\b<=13)(hm:0<=m/\m<=1000)(w:World):xa 176 #[xc (p:Int),xc b,xc m] w (xc (q6f p b m)):=by
 refine qah (G:=tys) w tysOK mixed func176 Q4R Q4S Q4Q ?_;repeat' (refine Ba ?_;first|refine Q2J ?_|refine Bb (by simp only[yt];omega) ?_|fail)
 obtain⟨k1,k2,k3⟩:=q2t hp hb hm;have:=q0r p b m Q4P;exact qke ((congrArg IntKind.i64.wrap k1).trans (q36 _ Q4P Q4P))
theorem jcp(p:Nat)(b m:Int)(h:Hp)(hp:p<64)(hb:0<=b/\b<=13)(hm:0<=m/\m<=1000):qae prog 176 [xc (p:Int),xc b,xc m] h (xc (q6f p b m)) [] []:=
 qaj rfl rfl (call176 _) (q2u p b m hp hb hm)
theorem cDist(px py qx qy:Int)(h:Hp):qae prog 206 [.agg #[xc px,xc py],.agg #[xc qx,xc qy]] h (xc (q4y px py qx qy)) [] []:=qaj Q4R Q4R (call206 _) (λw=>qwe px py qx qy w)
theorem jbu(c:Nat->Int)(n cap i j k:Nat)(P:Nat->Int)(M:Nat->Bool)(tm st:Int)(o1 o2 o3:Bool)(p:Nat)(h:Hp)(hi:h[i]?=some (some (wcc o1 c n cap j k tm st)))(hj:h[j]?=some (some (ptP o2 n P)))(hk:h[k]?=some (some (mvP o3 n M)))(hp:p<n)(h64:n<=64)(hs:0<=c 4/\c 4<=100):
  qae prog 134 [xd i,xc (p:Int)] h (xc (q6t (q6f p 7 (c 4)) tm)) [] [i,j,k]:=by
 refine qau (G:=tys) [⟨i,_,wcc false c n cap 1 2 tm st,⟨false,0,[]⟩⟩,⟨j,_,ptP false n P,⟨false,0,[]⟩⟩,⟨k,_,mvP false n M,⟨false,0,[]⟩⟩] [] [xd 0,xc (p:Int)] tysOK mixed func134 Q4R (call134) ⟨hi,hj,hk,xb⟩ Q3W Q55 xb Q3Y ?_
 repeat' (refine Ba ?_;first|refine Q2J ?_|refine Q2Z ?_|with_reducible (first|refine Bc (jcp _ _ _ _ Q4P Q4P Q4P) ?_|refine Bc (q2n _ _ _) ?_)|refine Bb xb ?_|exact Bd|refine Q3B ?_|fail)
theorem qkj(c:Nat->Int)(n cap i j k:Nat)(P:Nat->Int)(M:Nat->Bool)(tm st:Int)(o1 o2 o3:Bool)(p:Nat)(g:Int)(h:Hp)(hi:h[i]?=some (some (wcc o1 c n cap j k tm st)))(hj:h[j]?=some (some (ptP o2 n P)))(hk:h[k]?=some (some (mvP o3 n M)))(hp:p<n)(h64:n<=64)(hs:0<=c 5/\c 5<=1000):
  qae prog 135 [xd i,xc (p:Int),xc g] h (xc (if qh1 (q6f p 13 (c 5)) (IntKind.i64.wrap (12345*(p:Int))) g then q76 (q6f p 13 (c 5)) (IntKind.i64.wrap (12345*(p:Int))) g else 0)) [] [i,j,k]:=by
 refine qau (G:=tys) [⟨i,_,wcc false c n cap 1 2 tm st,⟨false,0,[]⟩⟩,⟨j,_,ptP false n P,⟨false,0,[]⟩⟩,⟨k,_,mvP false n M,⟨false,0,[]⟩⟩] [] [xd 0,xc (p:Int),xc g] tysOK mixed func135 Q4R (call135) ⟨hi,hj,hk,xb⟩ Q3W Q55 xb Q4a ?_
 repeat' (refine Ba ?_;first|refine Q2J ?_|refine Q2Z ?_|with_reducible (first|refine Bc (jcp _ _ _ _ Q4P Q4P Q4P) ?_|refine Bc (jbr _ _ _ _) ?_)|refine Bb xb ?_|exact Bd|refine Q3B ?_|fail)
theorem qwf(c:Nat->Int)(n cap i j k:Nat)(P:Nat->Int)(M:Nat->Bool)(tm st:Int)(o1 o2 o3:Bool)(p q:Nat)(h:Hp)(hi:h[i]?=some (some (wcc o1 c n cap j k tm st)))(hj:h[j]?=some (some (ptP o2 n P)))(hk:h[k]?=some (some (mvP o3 n M)))(hp:p<n)(hq:q<n):
  qae prog 166 [xd i,xc (p:Int),xc (q:Int)] h (xc (q4y (P (p*2)) (P (p*2+1)) (P (q*2)) (P (q*2+1)))) [] [i,j,k]:=by
 refine qau (G:=tys) [⟨i,_,wcc false c n cap 1 2 tm st,⟨false,0,[]⟩⟩,⟨j,_,ptP false n P,⟨false,0,[]⟩⟩,⟨k,_,mvP false n M,⟨false,0,[]⟩⟩] [] [xd 0,xc (p:Int),xc (q:Int)] tysOK mixed func166 Q4R (call166) ⟨hi,hj,hk,xb⟩ Q3W Q55 xb Q4a ?_
 repeat' (refine Ba ?_;first|refine Q2J ?_|refine Q2Z ?_|refine Bi p 1 rfl hp ?_|refine Bk _ (qkh hp) ?_|refine Bi q 1 rfl hq ?_|refine Bk _ (qkh hq) ?_|with_reducible refine Bc (cDist _ _ _ _ _) ?_|refine Bb xb ?_|exact Bd|refine Q3B ?_|fail)
open Go.RowKit
def geR(b:Nat):Bool:=FloatKind.f64.format.order b 13929633647456944128==some .gt||FloatKind.f64.format.order b 13929633647456944128==some .eq
def leR(b:Nat):Bool:=FloatKind.f64.format.order b 4706261610602168320==some .lt||FloatKind.f64.format.order b 4706261610602168320==some .eq
def cutN(b:Nat):Int:=(floatToIntVal .f64 b .i64).getD 0
def qdd(b:Nat):Int:=if (geR b&&leR b)=true then cutN b else 0
def qd2(b:Nat):Bool:=geR b&&leR b&&(FloatKind.f64.format.order (floatOfInt .f64 (cutN b)) b==some .eq)
theorem q2v(b:Nat)(h1:geR b=true)(h2:leR b=true):floatToIntVal .f64 b .i64=some (cutN b)/\-4194304<=cutN b/\cutN b<=4194304:=by
 obtain⟨n,hn,h3,h4⟩:=FZ.order_whole (a:=b) (B:=4194304) FZ.range_lo FZ.range_hi (by simpa[geR] using h1) (by simpa[leR] using h2) Q4T;have:cutN b=n:=by unfold cutN;rw[hn];rfl
 rw[this];exact⟨hn,by omega,by omega⟩
theorem jdb{n n':Int}{b b':Bool}(h:n=n')(k:b=b'):Ending.returned (.tuple #[xc n,.bool b])=.returned (.tuple #[xc n',.bool b']):=by rw[h,k]
theorem qh4(b:Nat)(w:World):
  Calls prog 201 #[.float .f64 b] w λe w'=>e=.returned (.tuple #[xc (qdd b),.bool (qd2 b)])/\w=w':=by
 have q1:(FloatKind.f64.format.order b 13929633647456944128==some .gt||FloatKind.f64.format.order b 13929633647456944128==some .eq)=geR b:=rfl
 have q2:(FloatKind.f64.format.order b 4706261610602168320==some .lt||FloatKind.f64.format.order b 4706261610602168320==some .eq)=leR b:=rfl
 by_cases h1:geR b=true
 .by_cases h2:leR b=true
  .obtain⟨hc,_,_⟩:=q2v b h1 h2;have hcv:=λw:World=>run_convert_float_int (P:=prog) w 234 2 _ _ _ _ (by rw[underlying234];rfl) underlying2 hc
   have hn:cutN b=qdd b:=by unfold qdd;rw[h1,h2];rfl
   have hb:(FloatKind.f64.format.order (floatOfInt .f64 (cutN b)) b==some .eq)=qd2 b:=by unfold qd2;rw[h1,h2];rfl
   have HN:=Lib.hid hn;have HB:=Lib.hid hb;clear hc hn hb;rw[h1] at q1;rw[h2] at q2;generalize cutN b=c at *;exact Q1v
  .have h2':leR b=false:=by simpa using h2
   have hn:0=qdd b:=by unfold qdd;rw[h1,h2'];rfl
   have hb:false=qd2 b:=by unfold qd2;rw[h1,h2'];rfl
   have HN:=Lib.hid hn;have HB:=Lib.hid hb;clear hn hb;rw[h1] at q1;rw[h2'] at q2;exact Q1v
 .have h1':geR b=false:=by simpa using h1
  have hn:0=qdd b:=by unfold qdd;rw[h1'];rfl
  have hb:false=qd2 b:=by unfold qd2;rw[h1'];rfl
  have HN:=Lib.hid hn;have HB:=Lib.hid hb;clear hn hb;rw[h1'] at q1;exact Q1v
def toB(a b:Nat):Bool:=qd2 a&&qd2 b
def toX(a b:Nat):Int:=if toB a b=true then qdd a else 0
def toY(a b:Nat):Int:=if toB a b=true then qdd b else 0
theorem q2w(a b:Nat)(w:World):
  xa 160 #[.complex .f64 a b] w (.tuple #[.agg #[xc (toX a b),xc (toY a b)],.bool (toB a b)]):=by
 have hB:Below w.heap.size w w:=Below.refl _ _
 cases h1:qd2 a
 .have e1:toB a b=false:=by unfold toB;rw[h1];rfl
  exact Q0v
 .cases h2:qd2 b
  .have e1:toB a b=false:=by unfold toB;rw[h1,h2];rfl
   exact Q0v
  .have e1:toB a b=true:=by unfold toB;rw[h1,h2];rfl
   have e2:toX a b=qdd a:=by unfold toX;rw[e1];rfl
   have e3:toY a b=qdd b:=by unfold toY;rw[e1];rfl
   rw[e1,e2,e3];clear e1 e2 e3
   go_enter func160,Tryz.ntmps160
   go_wp2_with (go_at_call 201;refine(qh4 _ _).mono ?_;rintro e w' ⟨rfl,rfl⟩)
   exact bodyPost_ret (v:=.tuple #[.agg #[xc (qdd a),xc (qdd b)],.bool true]) (by simp[results,Tryz.results160,go_sem]) rfl ⟨rfl,Q5t⟩
variable{b:Nat}
theorem q9e{z:Int}(h:FZ.W b z):geR b=decide (-4194304<=z):=by
 unfold geR;rw[h.order FZ.range_lo];rcases Int.lt_trichotomy z (-4194304) with g|g|g
 .rw[y4.2 g];simp;omega
 .subst g;rfl
 .rw[y5.2 g];simp;omega
theorem q9f{z:Int}(h:FZ.W b z):leR b=decide (z<=4194304):=by
 unfold leR;rw[h.order FZ.range_hi];rcases Int.lt_trichotomy z 4194304 with g|g|g
 .rw[y4.2 g];simp;omega
 .subst g;rfl
 .rw[y5.2 g];simp;omega
theorem qyq{z:Int}(h:FZ.W b z)(hz : -9223372036854775808<=z/\z<=9223372036854775807):cutN b=z:=by unfold cutN;rw[h.toInt hz];rfl
theorem qpk{z:Int}(h:FZ.W b z)(hz : -9007199254740992<z/\z<9007199254740992):qd2 b=decide (-4194304<=z/\z<=4194304):=by
 unfold qd2;rw[q9e h,q9f h,qyq h Q4P,(FZ.W.of_int hz).order h];simp
theorem qpl{z:Int}(h:FZ.W b z)(hz : -4194304<=z/\z<=4194304):qdd b=z:=by
 unfold qdd;rw[q9e h,q9f h,qyq h Q4P,if_pos Q5q]
theorem jdc{a:Nat}{x y:Int}(ha:FZ.W a x)(hb:FZ.W b y)(hx : -9007199254740992<x/\x<9007199254740992)(hy : -9007199254740992<y/\y<9007199254740992):
  toB a b=stp x y/\toX a b=cx x y/\toY a b=cy x y:=by
 have h1:toB a b=stp x y:=by
  unfold toB;rw[qpk ha hx,qpk hb hy];unfold stp;rw[<-Bool.decide_and];congr 1;simp only[eq_iff_iff];omega
 refine⟨h1,?_,?_⟩
 .unfold toX cx;rw[h1];split
  .rename_i h;have:=stp_iff.1 h;exact qpl ha Q4P
  .rfl
 .unfold toY cy;rw[h1];split
  .rename_i h;have:=stp_iff.1 h;exact qpl hb Q4P
  .rfl
def q5n(x y:Int):Int:=cx x y*cx x y+cy x y*cy x y
theorem qwg(x y:Int)(w:World):
  xa 161 #[.agg #[xc x,xc y]] w (xc (q5n x y)):=by
 have hB:Below w.heap.size w w:=Below.refl _ _
 cases h:stp x y
 .have hn:0=q5n x y:=by unfold q5n cx cy;rw[h];rfl
  have HN:=Lib.hid hn;clear hn
  go_enter func161,Tryz.ntmps161
  go_wp2_with (first|(go_at_call 159;refine(qkg _ _ _).mono ?_;rintro e w1 ⟨rfl,hb⟩;have hz:=hb.size;(try simp at hz);have hB':Below w.heap.size w w1:=Below.trans Q5t (hb.mono Q4V);have hB:=hB';clear hB'))
  go_ret
  exact⟨qne HN.out,Q5t⟩
 .have hn:x*x+y*y=q5n x y:=by unfold q5n cx cy;rw[h];rfl
  have HN:=Lib.hid hn;have hs:=stp_iff.1 h;have b1:=qyp 4194304 (a:=x) (b:=x) Q4P 4194304 Q4P;have b2:=qyp 4194304 (a:=y) (b:=y) Q4P 4194304 Q4P;clear hn hs
  go_enter func161,Tryz.ntmps161
  go_wp2_with (first|(go_at_call 159;refine(qkg _ _ _).mono ?_;rintro e w1 ⟨rfl,hb⟩;have hz:=hb.size;(try simp at hz);have hB':Below w.heap.size w w1:=Below.trans Q5t (hb.mono Q4V);have hB:=hB';clear hB';have k0:w1.cell? ⟨w.heap.size,0,none⟩=some (xc x):=(hb.cell Q4V).trans (by first|(go_keep;done)|(go_simp;done));have k1:w1.cell? ⟨w.heap.size,1,none⟩=some (xc y):=(hb.cell Q4V).trans (by first|(go_keep;done)|(go_simp;done))))
  go_ret
  exact⟨qne HN.out,Q5t⟩
open Go Go.RowKit Sx
theorem qpm(x y:Operand)(a b c d:Int):BinIs prog .neq 61 x y (.agg #[xc a,xc b]) (.agg #[xc c,xc d]) (.bool !(a==c&&b==d)):=
 ⟨rfl,rfl,rfl,λw=>by go_simp;by_cases h1:a=c<;>by_cases h2:b=d<;>simp[h1,h2]⟩
theorem qpn(u:Int):((some (compare u 0)==some Ordering.eq):Bool)=decide (u=0):=by
 rcases Int.lt_trichotomy u 0 with g|g|g
 .rw[y4.2 g,xj Q4P];rfl
 .subst g;rfl
 .rw[y5.2 g,xj Q4P];rfl
theorem jbv(t:TypeId)(x y:Operand){a:Nat}{u v:Int}(ha:FZ.W a u)(hb:FZ.W b v):BinIs prog .eql 201 x y (.complex .f64 a b) (.complex .f64 0 0) (.bool (decide (u=0)&&decide (v=0))):=
 ⟨rfl,rfl,rfl,λw=>by
  go_simp
  rw[ha.order qpi,hb.order qpi,qpn,qpn]⟩
theorem cTOf(x y:Int)(h:Hp):qae prog 127 [.agg #[xc x,xc y]] h (.complex .f64 (ofR x y) (ofI x y)) [] []:=qaj Q4R Q4R (call127 _) (λw=>q2s x y w)
theorem cTo(a b:Nat)(h:Hp):qae prog 160 [.complex .f64 a b] h (.tuple #[.agg #[xc (toX a b),xc (toY a b)],.bool (toB a b)]) [] []:=qaj Q4R Q4R (call160 _) (λw=>q2w a b w)
theorem jbw(x y:Int)(h:Hp):qae prog 161 [.agg #[xc x,xc y]] h (xc (q5n x y)) [] []:=qaj Q4R Q4R (call161 _) (λw=>qwg x y w)
theorem q2x{a b:Bool}(h:a=true↔b=true):Value.bool a=.bool b:=by
 congr 1;cases b with
 | true=>exact h.2 rfl
 | false=>rw[<-Bool.not_eq_true];exact λe=>Bool.noConfusion (h.1 e)
def qe2(x y most:Int):Bool:=decide (stp x y=true/\x*x+y*y<=most*most)
theorem qcy{x y:Int}(h:stp x y=true):cx x y=x/\cy x y=y:=by unfold cx cy;rw[if_pos h,if_pos h];exact⟨rfl,rfl⟩
theorem qwh(a b:Nat)(x y most:Int)(ha:FZ.W a x)(hb:FZ.W b y)(hx : -9007199254740992<x/\x<9007199254740992)(hy : -9007199254740992<y/\y<9007199254740992)(hm:0<=most/\most<=1000)(w:World):xa 128 #[.complex .f64 a b,xc most] w (.bool (qe2 x y most)):=by
 obtain⟨e1,e2,e3⟩:=jdc ha hb hx hy;refine qah (G:=tys) w tysOK mixed func128 Q4R Q4S Q4Q ?_;repeat' (refine Ba ?_;first|refine Q2J ?_|with_reducible (first|refine Bc (cTo _ _ _) ?_|refine Bc (jbw _ _ _) ?_|refine Bn (λhb=>?_) λhb=>?_)|fail)
 .refine q2x ?_;have h1:stp x y=true:=e1.symm.trans hb;have h2:stp (cx x y) (cy x y)=true:=by rw[(qcy h1).1,(qcy h1).2];exact h1
  have h3:0<=most*most:=x7 hm.1 hm.1;have h4:most*most<=1000*1000:=Int.mul_le_mul hm.2 hm.2 hm.1 Q4P;rw[e2,e3,q36 _ Q4P Q4P];unfold q5n qe2;rw[(qcy h2).1,(qcy h2).2,(qcy h1).1,(qcy h1).2,h1,xu,xu];exact⟨λg=>⟨rfl,g⟩,λg=>g.2⟩
 .unfold qe2;rw[<-e1,hb];rfl
theorem qpo(a b:Nat)(x y most:Int)(h:Hp)(ha:FZ.W a x)(hb:FZ.W b y)(hx : -9007199254740992<x/\x<9007199254740992)(hy : -9007199254740992<y/\y<9007199254740992)(hm:0<=most/\most<=1000):qae prog 128 [.complex .f64 a b,xc most] h (.bool (qe2 x y most)) [] []:=
 qaj rfl rfl (call128 _) (qwh a b x y most ha hb hx hy hm)
def wiB(x y m:Int):Prop:=-m<=x/\x<=m/\-m<=y/\y<=m
instance(x y m:Int):Decidable (wiB x y m):=by unfold wiB;infer_instance
theorem qto(x y m:Int)(hm:0<=m/\m<=1000000000)(w:World):xa 78 #[.agg #[xc x,xc y],xc m] w (.bool (decide (wiB x y m))):=by
 have hneg:IntKind.i64.wrap (0-m) = -m:=by rw[q36 _ Q4P Q4P];omega
 refine Q1n ?_;repeat' (refine Ba ?_;first|refine Q2J ?_|with_reducible refine Bn (λhb=>?_) (λhb=>?_)|fail)
 all_goals
  refine q4w ?_
  try rw[hneg] at *
  unfold wiB
  simp only[xu,xD,xC,false_iff,true_iff,iff_true,iff_false,reduceCtorEq,yf,xv,yg,yh] at *
  omega
theorem qwi(x y m:Int)(h:Hp)(hm:0<=m/\m<=1000000000):qae prog 78 [.agg #[xc x,xc y],xc m] h (.bool (decide (wiB x y m))) [] []:=
 qaj rfl rfl (call78 _) (qto x y m hm)
theorem qnw(x y:Int)(w:World):xa 44 #[.agg #[xc x,xc y]] w (.bool (decide (wiB x y 4194304))):=by
 refine Q1o ?_;repeat' (refine Ba ?_;first|refine Q2J ?_|with_reducible refine Bc (qwi _ _ _ _ Q4P) ?_|fail)
 all_goals rfl
theorem qi4(x y:Int)(h:Hp):qae prog 44 [.agg #[xc x,xc y]] h (.bool (decide (wiB x y 4194304))) [] []:=
 qaj rfl rfl (call44 _) (qnw x y)
theorem qyr(x y:Operand){a c d r s:Nat}(hr:floatBits .sub .f64 a c=some r)(hs:floatBits .sub .f64 b d=some s):BinIs prog .sub 201 x y (.complex .f64 a b) (.complex .f64 c d) (.complex .f64 r s):=
 ⟨rfl,rfl,rfl,λw=>by
  go_simp
  exact run_complex_sum _ _ (.inr rfl) _ _ _ _ _ _ _ _ (by unfold cSumBits;rw[hr,hs];rfl)⟩
theorem qpp{x y:Int}(h:stp x y=true)(hn:(!(x==0&&y==0))=true):(decide (cx x y=0)&&decide (cy x y=0))=false:=by
 rw[(qcy h).1,(qcy h).2];cases e:(decide (x=0)&&decide (y=0)) with
 | false=>rfl
 | true=>
  rw[xi,xu,xu] at e;obtain⟨rfl,rfl⟩:=e;exact absurd hn Q4T
theorem qpq{o:Bool}(h:p<n):Reads (mvP o n M) p false 1 (.bool (M p)):=
 ⟨h,rfl,qbn h⟩
theorem qwj{o:Bool}(h:p<n):Reads (ptP o n P) (p*2+0) false 1 (xc (P (p*2))):=
 ⟨by show p*2+0<n*2;omega,rfl,qbn Q4P⟩
theorem qwk{o:Bool}(h:p<n):Reads (ptP o n P) (p*2+1) false 1 (xc (P (p*2+1))):=
 ⟨by show p*2+1<n*2;omega,rfl,qbn Q4P⟩
theorem q2y(c:Nat->Int)(n cap i j k:Nat)(P:Nat->Int)(M:Nat->Bool)(tm st:Int)(o1 o2 o3:Bool)(p:Nat)(px py qx qy:Int)(h:Hp)(hi:h[i]?=some (some (wcc o1 c n cap j k tm st)))(hj:h[j]?=some (some (ptP o2 n P)))(hk:h[k]?=some (some (mvP o3 n M)))(hp:p<n)(hc2:0<=c 2/\c 2<=1000)(hc3:0<=c 3/\c 3<=1000)(hsp:stp px py=true)(hsq:stp qx qy=true)(hsh:qe2 (cx px py) (cy px py) (c 2)=true)(hsg:qe2 (cx qx qy-cx px py) (cy qx qy-cy px py) (c 3)=true)(hM:M p=true):
  qae prog 98 [xd i,xc (p:Int),.agg #[xc px,xc py],.agg #[xc qx,xc qy]] h (xc 10) [] [i,j,k]:=by
 have bx:=jab px py
 have bY:=jac px py
 have dx:=jab qx qy
 have dy:=jac qx qy
 obtain⟨r,hr,wr⟩:=FZ.W.sub (q56 qx qy) (q56 px py) Q4P
 obtain⟨s,hs,ws⟩:=FZ.W.sub (q57 qx qy) (q57 px py) Q4P
 refine qau (G:=tys) [⟨i,_,wcc false c n cap 1 2 tm st,⟨false,0,[]⟩⟩,⟨j,_,ptP false n P,⟨false,0,[]⟩⟩,⟨k,_,mvP false n M,⟨false,0,[]⟩⟩] [] [xd 0,xc (p:Int),.agg #[xc px,xc py],.agg #[xc qx,xc qy]] tysOK mixed func98 Q4R (call98) ⟨hi,hj,hk,xb⟩ Q3W Q55 xb Q4y ?_
 repeat' (refine Ba ?_;first|refine Q2J ?_|refine Q3d ?_|refine Q2Z ?_|refine Q3J ?_|refine Bf (hM) ?_|refine Bk _ (qpq hp) ?_|with_reducible refine Bn (λhb=>?_) (λhb=>?_)|refine Bb xb ?_|exact Bd|refine Q3B ?_|fail)
def q4t(P:Nat->Int)(p:Nat)(x y:Int)(j:Nat):Int:=if j=p*2 then x else if j=p*2+1 then y else P j
def q7d(M:Nat->Bool)(p:Nat)(j:Nat):Bool:=if j=p then true else M j
theorem qtp{x y:Int}(h:p<n):Writes (ptP true n P) (p*2) (1*2) (.agg ⟨[xc x,xc y]⟩) (ptP true n (q4t P p x y)):=by
 refine⟨rfl,by show p*2+1*2<=n*2;omega,rfl,λj hj=>?_⟩;have hj:j<n*2:=hj;rw[qbn hj,qbn hj];unfold q4t;by_cases h1:j=p*2
 .exact Q24
 .by_cases h2:j=p*2+1
  .subst h2;rw[if_neg h1,if_pos rfl,if_pos Q4P,show p*2+1-p*2=1 by omega];rfl
  .rw[if_neg h1,if_neg h2,if_neg Q4P]
theorem qtq(h:p<n):Writes (mvP true n M) p 1 (.bool true) (mvP true n (q7d M p)):=by
 refine⟨rfl,by show p+1<=n;omega,rfl,λj hj=>?_⟩;have hj:j<n:=hj;rw[qbn hj,qbn hj];unfold q7d;by_cases h1:j=p
 .exact Q24
 .rw[if_neg h1,if_neg Q4P]
theorem q0s{h:Hp}{x y x' y':Int}(hh:h[k]?=some (some (ptP true n (q4t P p x' y'))))(hx:x'=x)(hy:y'=y):PostC ix h k (ptP true n (q4t P p x y)):=by
 subst hx hy;exact⟨_,hh,id,nlr _,qbi⟩
theorem q0t{h:Hp}(hh:h[k]?=some (some (mvP true n M))):PostC ix h k (mvP true n M):=⟨_,hh,id,nlr _,qbj⟩
theorem q2z(c:Nat->Int)(n cap i j k:Nat)(P:Nat->Int)(M:Nat->Bool)(tm st:Int)(o1:Bool)(p:Nat)(px py qx qy:Int)(hij:i≠j)(hik:i≠k)(hjk:j≠k)(h:Hp)(hi:h[i]?=some (some (wcc o1 c n cap j k tm st)))(hj:h[j]?=some (some (ptP true n P)))(hk:h[k]?=some (some (mvP true n M)))
  (hp:p<n) (hc2:0<=c 2/\c 2<=1000) (hc3:0<=c 3/\c 3<=1000) (hsp:stp px py=true) (hsq:stp qx qy=true) (hsh:qe2 (cx px py) (cy px py) (c 2)=true) (hsg:qe2 (cx qx qy-cx px py) (cy qx qy-cy px py) (c 3)=true) (hM:M p=false) (hto:wiB (P (p*2)+px) (P (p*2+1)+py) 4194304) (hPb:wiB (P (p*2)) (P (p*2+1)) 4194304) :
  qae prog 98 [xd i,xc (p:Int),.agg #[xc px,xc py],.agg #[xc qx,xc qy]] h (xc 0) [(j,ptP true n (q4t P p (P (p*2)+px) (P (p*2+1)+py))),(k,mvP true n (q7d M p))] [i]:=by
 have bx:=jab px py
 have bY:=jac px py
 have dx:=jab qx qy
 have dy:=jac qx qy
 obtain⟨r,hr,wr⟩:=FZ.W.sub (q56 qx qy) (q56 px py) Q4P
 obtain⟨s,hs,ws⟩:=FZ.W.sub (q57 qx qy) (q57 px py) Q4P
 have sp:=stp_iff.1 hsp
 have e1:IntKind.i64.wrap (P (p*2)+px)=P (p*2)+px:=q36 _ (by have:=hPb.1;omega) (by have:=hPb.2.1;omega)
 have e2:IntKind.i64.wrap (P (p*2+1)+py)=P (p*2+1)+py:=q36 _ (by have:=hPb.2.2.1;omega) (by have:=hPb.2.2.2;omega)
 refine qau (G:=tys) [⟨i,_,wcc false c n cap 1 2 tm st,⟨false,0,[]⟩⟩,⟨j,_,ptP true n P,ptP true n (q4t P p (P (p*2)+px) (P (p*2+1)+py))⟩,⟨k,_,mvP true n M,mvP true n (q7d M p)⟩] [] [xd 0,xc (p:Int),.agg #[xc px,xc py],.agg #[xc qx,xc qy]] tysOK mixed func98 Q4R (call98) ⟨hi,hj,hk,xb⟩ ⟨Q44,⟨λh=>⟨rfl,nlr _⟩,nlr _,qbi⟩,⟨λh=>⟨rfl,nlr _⟩,nlr _,qbj⟩,xb⟩ (by simp[Apart,hij,hik,hjk]) xb Q4y ?_
 repeat' (refine Ba ?_;first|refine Q2J ?_|refine Q3d ?_|refine Q2Z ?_|refine Q3J ?_|refine Be (hM) ?_|refine Bk _ (qpq hp) ?_|refine Bk _ (qwj hp) ?_|refine Bk _ (qwk hp) ?_|refine Be (by rw[e1,e2,xg hto];rfl) ?_|refine N.store _ (qtp hp) ?_|refine N.store _ (qtq hp) ?_|with_reducible refine Bn (λhb=>?_) (λhb=>?_)|refine Q3B ?_|refine Bb ⟨q0s Q4R e1 e2,q0t Q4R,xb⟩ ?_|refine Bb xb ?_|exact Bd|fail)
open Go Go.RowKit Sx
theorem qa0{k:IntKind}{a b:Int}(h:a=b):Re1 ix (.int k a) (.int k b):=by subst h;exact .plain rfl
theorem jbx(c:Nat->Int)(n cap i j k:Nat)(P:Nat->Int)(M:Nat->Bool)(tm st:Int)(o2 o3:Bool)(h:Hp)(hi:h[i]?=some (some (wcc true c n cap j k tm st)))(hj:h[j]?=some (some (ptP o2 n P)))(hk:h[k]?=some (some (mvP o3 n M)))(hij:i≠j)(hik:i≠k)(ht:0<=tm/\tm<=1000000)(hst:0<=st/\st<=16777215):
  qae prog 131 [xd i] h (xc (tm*16777216+min (st+1) 16777215)) [(i,wcc true c n cap j k tm (min (st+1) 16777215))] [j,k]:=by
 have e1:IntKind.i64.wrap (st+1)=st+1:=q36 _ Q4P Q4P
 have e2:IntKind.i64.wrap (tm*16777216)=tm*16777216:=q36 _ Q4P Q4P
 have e3:IntKind.i64.wrap (tm*16777216+min (st+1) 16777215)=tm*16777216+min (st+1) 16777215:=q36 _ Q4P Q4P
 refine qau (G:=tys) [⟨i,_,wcc true c n cap 1 2 tm st,wcc true c n cap j k tm (min (st+1) 16777215)⟩,⟨j,_,ptP false n P,⟨false,0,[]⟩⟩,⟨k,_,mvP false n M,⟨false,0,[]⟩⟩] [] [xd 0] tysOK mixed func131 Q4R (call131) ⟨hi,hj,hk,xb⟩ ⟨⟨λh=>⟨rfl,nlr _⟩,nlr _,qen rfl rfl⟩,Q47,Q46,xb⟩ (by simp[Apart,hij,hik]) xb ⟨.ptr rfl,xb⟩ ?_
 repeat' (refine Ba ?_;first|refine Q2J ?_|with_reducible refine N.min2 ?_|refine Bb (qpg (qke (by rw[e1,e2,e3])) rfl) ?_|refine Q3A ?_|refine Bb xb ?_|exact Bd|fail)
abbrev ndX(s:NSt):Ext:=q47 (λ_:Rz=>True) (ndH s)
theorem qew:∀s,Selfish (ndX s):=λs=>qao
def prF(g:Rz)(k j:Nat):Value:=if j<k then q3z (g j) else .pointer none
abbrev prC(cap:Nat)(f:Nat->Value):Chunk:=⟨true,cap,[(0,cap,.agg ⟨segL cap f⟩)]⟩
theorem q20(g:Rz){j:Nat}(h:j<k):prF g k j=q3z (g j):=if_pos h
theorem qmm(g:Rz)(k j:Nat):qa2 (prF g k j)=true:=by
 unfold prF;split<;>rfl
theorem qtr(g:Rz)(k:Nat)(q:Nat×Nat)(j:Nat):prF (upd g k q) (k+1) j=if j=k then q3z q else prF g k j:=by
 unfold prF;by_cases e:j=k
 .subst e;rw[if_pos (yH _),qfq,if_pos rfl]
 .rw[if_neg e,qed _ _ e];by_cases h:j<k
  .rw[if_pos h,if_pos Q4P]
  .rw[if_neg h,if_neg Q4P]
variable{q:Nat×Nat}
theorem jby{g:Rz}{v:Value}(hv:v=.agg ⟨[q3z q]⟩)(h:k<cap)(hp:p=k):Writes (prC cap (prF g k)) p 1 v (prC cap (prF (upd g k q) (k+1))):=by
 subst hp hv;refine⟨rfl,h,rfl,λj hj=>?_⟩;have hj:j<cap:=hj;rw[qaw hj,qaw hj,qtr];by_cases e:j=p
 .subst e;rw[if_pos rfl,if_pos Q4P,Nat.sub_self];rfl
 .rw[if_neg e,if_neg Q4P]
theorem q9g{ci:Chunk}{g:Rz}{z:Value}(hz:z=.pointer none)(hc:∀j,j<k->ci.f j=prF g k j)(h:k+1<=cap):ChunkReLe ix (prC cap (prF (upd g k q) (k+1))) (grown ci k 1 1 (.agg ⟨[q3z q]⟩) z cap):=by
 subst hz;refine⟨λ_=>rfl,by show cap<=cap*1;omega,λj hj=>?_⟩;have hj:j<cap:=hj;have e:(grown ci k 1 1 (.agg ⟨[q3z q]⟩) (.pointer none) cap).f j=(prC cap (prF (upd g k q) (k+1))).f j:=by
  rw[qaw hj,qtr];by_cases h1:j<k
  .rw[qdw Q4P,hc j h1,if_neg Q4P]
  .by_cases h2:j=k
   .subst h2;have:=qdx (ci:=ci) (l:=j) (m:=1) (size:=1) (cap:=cap) (v:=.agg ⟨[q3z q]⟩) (z:=.pointer none) (j:=0) Q4P;rw[show j*1+0=j by omega] at this;rw[this,if_pos rfl];rfl
   .rw[qc0 Q4P Q4P,if_neg h2];unfold prF repZ;rw[if_neg h1,Nat.mod_one];rfl
 rw[e,qaw hj];exact .plain (qmm _ _ _)
theorem pr_ren{g:Rz}:ChunkReLe ix (prC cap (prF g k)) (prC cap (prF g k)):=
 ⟨id,nlr _,λj hj=>.plain (by rw[qaw hj];exact qmm _ _ _)⟩
theorem q9h{j:Nat}{g:Rz}(h:j<k)(hc:k<=cap)(hp:p=j):Reads (prC cap (prF g k)) p false 1 (q3z (g j)):=by
 subst hp;exact qd0 Q4P rfl (q20 g h)
theorem qqn(k:Nat)(q:Nat×Nat):FreeV k (q3z q):=λr r' _=>by rw[qek,qek]
def q33(C:Nat->Int)(i:Nat):NSt:=if i<3 then q4i C (i:Int) 0 true (q4s (i*2)) (q4s (i*2+1)) 100 0 100 else q4i C (i:Int) 0 false 0 0 0 0 0
variable{vs:List Value}{ps:Pz}
theorem qts{g:FuncId}{h:Hp}(i k n m n2:Nat)(gg:Rz)(s:Nat->NSt)(a:NSt){o:Bool}{c:Nat}{Y0:Ext}(hY:Y0=q31 ndX n gg s)(hm:m<n2)(hn:∀j,j<n2->j≠m->j<n)(hi:h[i]?=some (some (@Chunk.mk Y0 o c ps)))(hk:h[k]?=some none)
  (hc:qae prog g vs h (xd k) [(k,ndP a)] []):CallAll prog g vs h λv ms=>∃q:Nat×Nat,v=q3z q/\ms=[(i,@Chunk.mk (q31 ndX n2 (upd gg m q) (upd s m a)) o c ps)]:=by
 subst hY
 refine ql4 (Y:=λq a=>q31 ndX n2 (upd gg m q) (upd s m a)) (Z:=ndX) i k hi hk qew (λp q S T a w h1 h2 h3 h4 h5=>qow ndX gg s hm hn p q S T a w h1 h2 h3 h4 h5) (qce hc) λv ms hR=>?_
 obtain⟨rfl,rfl⟩:=hR
 exact .inr ⟨a,[],q3z,rfl,(λm hm=>by cases hm),(λr=>by simp[den,den2,den1,den0,q4a,q3z]),qqn k,λq=>⟨q,rfl,rfl⟩⟩
open Go Go.RowKit Sx
theorem qa4{v u:Value}(h:v=u)(hp:qar v=true):Re ix v u:=by subst h;exact .plain hp
theorem qee[ZW]{R R':List Rw}:∀j,j<0->Re1 ix ((rvC R).f j) ((rvC R').f j):=by omega
theorem qgi[ZW]{R:List Rw}:ChunkReLe ix (rvC R) (rvC R):=⟨id,nlr _,qee⟩
theorem qax{k:IntKind}{a b:Int}(h:a=b):Value.int k a=.int k b:=by rw[h]
theorem qd8{o:Bool}{m:Nat}{l:List Value}(hl:l.length=n)(hm:m=n):Reads ⟨o,n,[(0,n,.agg ⟨l⟩)]⟩ 0 true m (.agg ⟨l⟩):=by
 subst hl hm;refine⟨Nat.le_of_eq (xl _),_,rfl,rfl,λj hj=>?_⟩;show qa1 _ _=_;rw[qan,if_pos Q4P,xl,Nat.sub_zero];rfl
def qys(n:Int)(i:Nat):Int:=n / 256^i%256
def beK(n:Int)(w:Nat):Nat->List Int
 | 0=>[]
 | k+1=>beK n w k++[qys n (w-1-k)]
abbrev be(n:Int)(w:Nat):List Int:=beK n w w
theorem qnx(n:Int)(w:Nat):∀k,(beK n w k).length=k
 | 0=>rfl
 | k+1=>by rw[beK,xP,qnx n w k];rfl
structure BufOK(r:Rw)(bs:List Int):Prop where
 w:r.w=true
 e:r.e=5
 k:r.k=1
 n:r.n=bs.length
 xs:r.xs=bs.map (Value.int .u8)
variable{bs:List Int}
theorem BufOK.grew{r r':Rw}{cs:List Int}(h:BufOK r bs)(hg:Grew (some r) (some r') 5 1 cs.length (cs.map (Value.int .u8))):BufOK r' (bs++cs):=by
 obtain⟨h1,h2,h3⟩:=hg.ty r' rfl;exact⟨h3,h1,h2,by have:=hg.n;show q5h (some r')=_;rw[this,xP];show r.n+_=_;rw[h.n],by have:=hg.xs;show q53 (some r')=_;rw[this,yS];show r.xs++_=_;rw[h.xs]⟩
theorem q0u:∃ei z,prog.info? 5=some ei/\ei.size=1/\ei.bytes<=1000/\ei.zero=some z/\z.cells.size=1:=by
 obtain⟨ei,d,h1,h2,h3⟩:=qak tysOK (t:=5) (K:=λei _=>ei.size=1/\ei.bytes<=1000/\∃z,ei.zero=some z/\z.cells.size=1) ⟨rfl,by decide,_,rfl,rfl⟩;simp_all
theorem qwl(n:Int)(m:Nat)(hm:m<=7):IntKind.u8.wrap (n.fdiv (2^sh ((8*m:Nat):Int) IntKind.i64))=qys n m:=by
 have h1:sh ((8*m:Nat):Int) IntKind.i64=8*m:=by
  unfold sh;rw[yW];show min (8*m) 64=8*m;omega
 have h2:(2:Int)^(8*m)=256^m:=by rw[Int.pow_mul];rfl
 rw[h1,h2,wrap_u8,Int.fdiv_eq_ediv_of_nonneg _ (Int.pow_nonneg Q4T)];rfl
theorem qtt(M:List Int):∀u∈M.map (Value.int .u8),u.oneCell'=true:=λu hu=>by
 obtain⟨e,_,rfl⟩:=xx.1 hu;rfl
variable{K:Value->Mz->Prop}
theorem jad[ZW]{o:Oper}{st:St}{x y:Operand}{p:Value}{own:Bool}(r:Rw)(R:List Rw)(bs cs:List Int)(i:Nat)(hs:List Nat)(hr:BufOK r bs)
  (ho:o.op=.call ⟨.builtin .append,#[x,y],#[30,30]⟩) (hx:EvTo x st p) (hp:∀ρ,den ρ p=uR (some r.sl)) (hi:st.h[i]?=some (some (@Chunk.mk (rvX (r::R)) own n ps)))
  (hsrc:q96 y st hs cs.length 1 (cs.map (Value.int .u8))) (hl:bs.length+cs.length<=100000) (hK:∀r',BufOK r' (bs++cs)->K (uV (some r'.sl)) [(i,@Chunk.mk (rvX (r'::R)) own n ps)]):N (EffAll prog o st K):=by
 obtain⟨ei,z,h1,h2,h3,h4,h5⟩:=q0u
 have hn:q5h (some r)=bs.length:=hr.n
 have hb:(q5h (some r)+cs.length)*ei.bytes<=100000*1000:=x9 (by rw[hn];exact hl) h3
 refine qsf (e:=5) (ei:=ei) (z:=z) (some r) R i cs.length (cs.map (Value.int .u8)) ho hx hp underlying30 h1 h4 (by rw[h5,h2]) Q5R hi (λq hq=>by cases hq;rw[h2];exact⟨hr.e,hr.k,hr.w⟩) hs (by rw[h2];exact hsrc) (qtt cs) (by rw[hn];omega) Q4P λoe' hg=>?_
 rw[h2] at hg
 cases oe' with
 | none=>exact absurd (hg.nil.1 rfl).1 Q50
 | some r'=>exact hK r' (hr.grew hg)
theorem q5i[ZW](r:Rw)(R:List Rw)(bs:List Int)(hr:BufOK r bs)(n:Int)(hn : -9223372036854775808<=n/\n<=9223372036854775807)(w:Nat)(hw:1<=w/\w<=8)(hl:bs.length<=1000)(i:Nat)(h:Hp)(hi:h[i]?=some (some (rvC (r::R)))):
  CallAll prog 204 [uV (some r.sl),xc n,xc (w:Nat)] h (λv ms=>∃r':Rw,BufOK r' (bs++be n w)/\v=uV (some r'.sl)/\ms=[(i,rvC (r'::R))]):=by
 have key:=qaq (G:=tys) (h:=h) (vs:=[uV (some r.sl),.int .i64 n,.int .i64 (w:Nat)]) (λ_:Unit=>True) (λ_=>_) (α:=Rw) (λκ=>BufOK κ (bs++be n w)) (λκ=>uV (some κ.sl)) [⟨i,rvC (r::R),rvC (r::R),rvC (r::R)⟩] (λκ=>[rvC (κ::R)]) (λκ=>[]) [uV (some r.sl),.int .i64 n,.int .i64 (w:Nat)] tysOK mixed func204 Q4R (call204) ⟨hi,xb⟩ Q45 (λκ _=>Q45) Q55 Q40 (λκ _=>trivial) ⟨.quo,.plain rfl,.plain rfl,xb⟩ Opens.same ?_
 .exact Q0V
 rintro⟨⟩ -
 have e0:IntKind.i64.wrap ((w:Int)-1)=(w:Int)-1:=q36 _ Q4P Q4P
 have ek:(w:Int)-1-((0:Nat):Int)=IntKind.i64.wrap ((w:Int)-1):=by rw[e0];omega
 repeat' (refine Ba ?_;first|refine Q2J ?_|fail)
 refine Ba ?_
 refine Bo (α:=Nat×Rw) (λq=>q.1<=w/\BufOK q.2 (bs++beK n w q.1)) (λq=>w-q.1) (λq=>[(0,uV (some q.2.sl)),(7,xc ((w:Int)-1-(q.1:Int)))]) (λq=>[(0,rvC (q.2::R))]) (0,r) [(0,0)] ⟨xo _,by show BufOK r (bs++[]);rw[List.append_nil];exact hr⟩ ?_ ?_
 .exact Q0H
 rintro⟨k,q⟩ ⟨hk,hq⟩
 have hk:k<=w:=hk
 have hq:BufOK q (bs++beK n w k):=hq
 have hql:(bs++beK n w k).length=bs.length+k:=by rw[xP,qnx]
 by_cases hkw:k<w
 .have e8:IntKind.i64.wrap (8*((w:Int)-1-(k:Int)))=((8*(w-1-k):Nat):Int):=by rw[q36 _ Q4P Q4P];omega
  have ev:=qwl n (w-1-k) Q4P;rw[<-e8] at ev;have ek:(w:Int)-1-((k+1:Nat):Int)=IntKind.i64.wrap ((w:Int)-1-(k:Int)-1):=by rw[q36 _ Q4P Q4P];omega
  refine Q0S ?_;refine jad q R (bs++beK n w k) [_] 0 [_] hq rfl rfl (λρ=>qfo _ ρ) Q4R (ql2 [_] Q3Z rfl Q4R (qd8 Q4R Q4R) rfl) (by rw[hql];show _+1<=_;omega) λq' hq'=>?_
  rw[ev,List.append_assoc] at hq';refine Q0S ?_;refine Bl (α:=Nat×Rw) (k+1,q') [(0,0)] ⟨⟨hkw,hq'⟩,by show w-(k+1)<w-k;omega⟩ ?_;exact Q0H
 .obtain rfl:k=w:=by omega
  repeat' (refine Ba ?_;first|refine Q2J ?_|refine Q3r ?_|refine Bj ?_|refine Bh q ⟨hq,?_⟩|refine Bb (.one .quo) ?_|refine Bb Q4p ?_|refine Q3v ?_|exact Bd|fail)
abbrev jcq(n:Int):Bool:=IntKind.u32.wrap ((BitVec.ofInt IntKind.u32.bits n &&& BitVec.ofInt IntKind.u32.bits 1).toNat:Int)==1
abbrev q5o(a b:Int):Int:=IntKind.u32.wrap ((BitVec.ofInt IntKind.u32.bits a ^^^ BitVec.ofInt IntKind.u32.bits b).toNat:Int)
abbrev q58(n k:Int):Int:=n.fdiv (2^sh k IntKind.u32)
def jbz(n:Int):Int:=if jcq n=true then q5o (q58 n 1) 3988292384 else q58 n 1
def q7o(n:Int):Nat->Int
 | 0=>n
 | k+1=>jbz (q7o n k)
def q9i(i:Nat):Int:=q7o (IntKind.u32.wrap (i:Int)) 8
structure TabOK(oe:Option Rw)(l:List Int):Prop where
 n:q5h oe=l.length
 xs:q53 oe=l.map (Value.int .u32)
 ty:∀r,oe=some r->r.e=159/\r.k=1/\r.w=true
theorem TabOK.nil:TabOK none []:=⟨rfl,rfl,(λr h=>by cases h)⟩
theorem TabOK.grew{oe oe':Option Rw}{M M2:List Int}(h:TabOK oe M)(hg:Grew oe oe' 159 1 M2.length (M2.map (Value.int .u32))):TabOK oe' (M++M2):=
 ⟨by rw[hg.n,h.n,xP],by rw[hg.xs,h.xs,yS],hg.ty⟩
theorem qwm:∃ei z,prog.info? 159=some ei/\ei.size=1/\ei.bytes<=1000/\ei.zero=some z/\z.cells.size=1:=by
 obtain⟨ei,d,h1,h2,h3⟩:=qak tysOK (t:=159) (K:=λei _=>ei.size=1/\ei.bytes<=1000/\∃z,ei.zero=some z/\z.cells.size=1) ⟨rfl,by decide,_,rfl,rfl⟩;simp_all
theorem qwn(M:List Int):∀u∈M.map (Value.int .u32),u.oneCell'=true:=λu hu=>by
 obtain⟨e,_,rfl⟩:=xx.1 hu;rfl
theorem jdd[ZW]{o:Oper}{st:St}{x y:Operand}{p:Value}{own:Bool}(oe:Option Rw)(R:List Rw)(M M2:List Int)(i:Nat)(hs:List Nat)(hoe:TabOK oe M)
  (ho:o.op=.call ⟨.builtin .append,#[x,y],#[325,325]⟩) (hx:EvTo x st p) (hp:∀ρ,den ρ p=uR (rowO oe)) (hi:st.h[i]?=some (some (@Chunk.mk (rvX (rowL oe R)) own n ps)))
  (hsrc:q96 y st hs M2.length 1 (M2.map (Value.int .u32))) (hl:M.length+M2.length<=100000) (hK:∀oe',TabOK oe' (M++M2)->K (uV (rowO oe')) [(i,@Chunk.mk (rvX (rowL oe' R)) own n ps)]):N (EffAll prog o st K):=by
 obtain⟨ei,z,h1,h2,h3,h4,h5⟩:=qwm
 have hb:(q5h oe+M2.length)*ei.bytes<=100000*1000:=x9 (by rw[hoe.n];exact hl) h3
 exact qsf (e:=159) (ei:=ei) (z:=z) oe R i M2.length (M2.map (Value.int .u32)) ho hx hp underlying325 h1 h4 (by rw[h5,h2]) Q5R hi (λr hr=>by rw[h2];exact hoe.ty r hr) hs (by rw[h2];exact hsrc) (qwn M2) (by rw[hoe.n];omega) Q4P λoe' hg=>hK oe' (hoe.grew (by rw[h2] at hg;exact hg))
def q59(k:Nat):List Int:=(List.range k).map q9i
theorem qkk(k:Nat):(q59 k).length=k:=by grind[q59]
theorem q21[ZW](R:List Rw)(i:Nat)(h:Hp)(hi:h[i]?=some (some (rvC R))):
  CallAll prog 240 [] h (λv ms=>∃r:Rw,TabOK (some r) (q59 256)/\v=uV (some r.sl)/\ms=[(i,rvC (r::R))]):=by
 have key:=qaq (G:=tys) (h:=h) (vs:=[]) (λ_:Unit=>True) (λ_=>_) (α:=Rw) (λκ=>TabOK (some κ) (q59 256)) (λκ=>uV (some κ.sl)) [⟨i,rvC R,rvC R,rvC R⟩] (λκ=>[rvC (κ::R)]) (λκ=>[]) [] tysOK mixed func240 Q4R (call240) ⟨hi,xb⟩ Q45 (λκ _=>Q45) Q55 Q40 (λκ _=>trivial) xb Opens.same ?_
 .exact Q0V
 rintro⟨⟩ -
 repeat' (refine Ba ?_;first|refine Q2J ?_|refine Q3j ?_|refine Q3r ?_|fail)
 refine Ba ?_
 refine Bo (α:=Nat×Option Rw) (λq=>q.1<=256/\TabOK q.2 (q59 q.1)) (λq=>256-q.1) (λq=>[(1,uV (rowO q.2)),(5,xc (q.1:Int))]) (λq=>[(0,rvC (rowL q.2 R))]) (0,none) [(0,0)] ⟨by decide,TabOK.nil⟩ ?_ ?_
 .exact Q0A
 rintro⟨k,oe⟩ ⟨hk,hoe⟩
 have hk:k<=256:=hk
 have hoe:TabOK oe (q59 k):=hoe
 by_cases hkl:k<256
 .refine Q0e ?_;refine N.loop (α:=Nat) (λm=>m<=8) (λm=>8-m) (λm=>[(3,.int .u32 (q7o (IntKind.u32.wrap (k:Int)) m)),(10,xc (m:Int))]) (λm=>[]) 0 Q4T ?_ ?_
  .exact Q15
  intro m hm;have hm:m<=8:=hm;by_cases hm8:m<8
  .generalize hx:q7o (IntKind.u32.wrap (k:Int)) m=x;have em:IntKind.i64.wrap ((m:Int)+1)=((m+1:Nat):Int):=by rw[q36 _ Q4P Q4P];rfl
   by_cases ho:jcq x=true
   .have es:q5o (q58 x 1) 3988292384=q7o (IntKind.u32.wrap (k:Int)) (m+1):=by rw[q7o,hx,jbz,if_pos ho]
    exact Q0n
   .have es:q58 x 1=q7o (IntKind.u32.wrap (k:Int)) (m+1):=by rw[q7o,hx,jbz,if_neg ho]
    exact Q0n
  .obtain rfl:m=8:=by omega
   have ek:((k+1:Nat):Int)=IntKind.i64.wrap ((k:Int)+1):=by rw[q36 _ Q4P Q4P];rfl
   refine Q0e ?_;refine jdd oe R (q59 k) [_] 0 [_] hoe rfl rfl (λρ=>qfo _ ρ) Q4R (ql2 [_] Q3Z rfl Q4R (qd8 Q4R Q4R) rfl) (by rw[qkk];show _+1<=_;omega) λoe' hoe'=>?_
   have hoe2:TabOK oe' (q59 (k+1)):=by
    unfold q59;rw[List.range_succ,yS];exact hoe'
   refine Q0e ?_;refine Bl (α:=Nat×Option Rw) (k+1,oe') [(0,0)] ⟨⟨hkl,hoe2⟩,by show 256-(k+1)<256-k;omega⟩ ?_;exact Q0A
 .obtain rfl:k=256:=by omega
  cases oe with
  | none=>have:=hoe.n;rw[qkk] at this;exact absurd this Q4T
  | some r=>
   repeat' (refine Ba ?_;first|refine Q2J ?_|refine Q3r ?_|refine Bj ?_|refine Bh r ⟨hoe,?_⟩|refine Bb (.one .quo) ?_|refine Bb Q4p ?_|refine Q3v ?_|exact Bd|fail)
abbrev q6a(a b:Int):Int:=IntKind.u8.wrap ((BitVec.ofInt IntKind.u8.bits a ^^^ BitVec.ofInt IntKind.u8.bits b).toNat:Int)
theorem q0v(a b:Int):0<=q6a a b/\q6a a b<256:=by
 unfold q6a;rw[wrap_u8];omega
def qtu(s c:Int):Int:=q5o (q58 s 8) (q9i (q6a (IntKind.u8.wrap s) c).toNat)
def sumK(bs:List Int)(k:Nat):Int:=(bs.take k).foldl qtu 4294967295
def q8i(bs:List Int):Int:=q5o 4294967295 (sumK bs bs.length)
theorem N.notU{x:Int}{K:Value->Prop}(h:K (.int .u32 (q5o 4294967295 x))):N (UnN prog .xor (.int .u32 x) K):=N.mk ⟨.int .u32 (q5o 4294967295 x),⟨rfl,rfl,λw=>by go_simp;rfl⟩,h⟩
theorem qtv{c:Int}(h:bs[k]?=some c):sumK bs (k+1)=qtu (sumK bs k) c:=by
 grind[sumK,List.take_add_one]
theorem jb0[ZW](rt rb:Rw)(R:List Rw)(bs:List Int)(hT:TabOK (some rt) (q59 256))(hB:BufOK rb bs)(hl:bs.length<=1000)(ht:rt∈R)(hb:rb∈R)(i:Nat)(h:Hp)(hi:h[i]?=some (some (rvC R))):
  qae prog 239 [uV (some rt.sl),uV (some rb.sl)] h (.int .u32 (q8i bs)) [(i,rvC R)] []:=by
 refine qay (G:=tys) (λ_:Unit=>True) (λ_=>_) [⟨i,rvC R,rvC R,rvC R⟩] [] [uV (some rt.sl),uV (some rb.sl)] tysOK mixed func239 Q4R (call239) ⟨hi,xb⟩ Q45 Q55 Q40 xb ⟨.quo,.quo,xb⟩ Opens.same ?_
 rintro⟨⟩ -
 have hbn:=hB.n
 have htn:rt.n=256:=by have:=hT.n;rw[qkk] at this;exact this
 have hTx:rt.xs=(q59 256).map (Value.int .u32):=hT.xs
 have hlb:((uN (some rb.sl):Nat):Int)=((bs.length:Nat):Int):=by show((rb.n:Nat):Int)=_;rw[hbn]
 have hlt:((uN (some rt.sl):Nat):Int)=256:=by show((rt.n:Nat):Int)=_;rw[htn];rfl
 repeat' (refine Ba ?_;first|refine Q2J ?_|refine Q3s ?_|fail)
 refine Ba ?_
 refine Bo (α:=Nat) (λk=>k<=bs.length) (λk=>bs.length-k) (λk=>[(5,.int .u32 (sumK bs k)),(11,xc (k:Int))]) (λk=>[]) 0 [(0,0)] (xo _) ?_ ?_
 .exact Q0C
 intro k hk
 have hk:k<=bs.length:=hk
 by_cases hkl:k<bs.length
 .obtain⟨c,hc⟩:∃c,bs[k]?=some c:=⟨_,xn hkl⟩;have hs:=qtv hc;generalize sumK bs k=s0 at hs;obtain⟨x0,x1⟩:=q0v (IntKind.u8.wrap s0) c;have es:sumK bs (k+1)=q5o (q58 s0 8) (q9i (q6a (IntKind.u8.wrap s0) c).toNat):=hs;have ex:IntKind.i64.wrap (q6a (IntKind.u8.wrap s0) c)=(q6a (IntKind.u8.wrap s0) c):=q36 _ Q4P Q4P;have hxe:(q59 256)[(q6a (IntKind.u8.wrap s0) c).toNat]?=some (q9i (q6a (IntKind.u8.wrap s0) c).toNat):=by
   unfold q59;rw[xN,List.getElem?_range Q4P];rfl
  have ek:((k+1:Nat):Int)=IntKind.i64.wrap ((k:Int)+1):=by rw[q36 _ Q4P Q4P];rfl
  repeat' (refine Ba ?_;first|refine Q2J ?_|refine Bf (xg (show _<_ by rw[hlt,ex];exact x1)) ?_|refine N.op (qck rfl rfl ⟨_,rfl,_,underlying325⟩) ?_|refine N.op (qjv (sz:=1) (g:=rb.o+k) tysOK rfl rfl (λρ=>by rw[qfo];rfl) rfl (by exact rfl) Q4P (by show((k:Nat):Int)<((rb.n:Nat):Int);omega) (by show rb.o+((k:Nat):Int).toNat*1=_;rw[yW,xU])) ?_|refine N.op (qou (i:=0) rb (v:=.int .u8 c) k tysOK rfl rfl rfl Q4R hb (by exact rfl) rfl (by rw[hB.xs,xN,hc];rfl)) ?_|refine N.op (qjv (sz:=1) (g:=rt.o+(q6a (IntKind.u8.wrap s0) c).toNat) tysOK rfl rfl (λρ=>by rw[qfo];rfl) rfl (by exact rfl) (by rw[ex];omega) (by rw[ex];show(q6a (IntKind.u8.wrap s0) c)<((rt.n:Nat):Int);omega) (by rw[ex,xU])) ?_|refine N.op (qou (i:=0) rt (v:=.int .u32 (q9i (q6a (IntKind.u8.wrap s0) c).toNat)) (q6a (IntKind.u8.wrap s0) c).toNat tysOK rfl rfl rfl Q4R ht (by exact rfl) rfl (by rw[hTx,xN,hxe];rfl)) ?_|refine Q3j ?_|fail)
  refine Ba ?_;refine Bl (α:=Nat) (k+1) [(0,0)] ⟨hkl,by show bs.length-(k+1)<bs.length-k;omega⟩ ?_;exact Q0C
 .obtain rfl:k=bs.length:=by omega
  repeat' (refine Ba ?_;first|refine Q2J ?_|refine N.notU ?_|refine Q3r ?_|refine Bj ?_|refine Q3B ?_|refine Bb Q4p ?_|refine Q3v ?_|exact Bd|fail)
theorem jde[ZW](rb:Rw)(R:List Rw)(bs:List Int)(hB:BufOK rb bs)(hl:bs.length<=1000)(hb:rb∈R)(i:Nat)(h:Hp)(hi:h[i]?=some (some (rvC R))):
  CallAll prog 205 [uV (some rb.sl)] h (λv ms=>v=.int .u32 (q8i bs)/\ms=[(i,rvC R)]):=by
 have hil:=(xe.1 hi).1
 have key:=qaq (G:=tys) (h:=h) (vs:=[uV (some rb.sl)]) (λ_:Unit=>True) (λ_=>_) (α:=Rw) (λκ=>True) (λκ=>.int .u32 (q8i bs)) [⟨i,rvC R,rvC R,rvC R⟩] (λκ=>[rvC (κ::R)]) (λκ=>[]) [uV (some rb.sl)] tysOK mixed func205 Q4R (call205) ⟨hi,xb⟩ Q45 (λκ _=>Q45) Q55 Q40 (λκ _=>trivial) ⟨.quo,xb⟩ Opens.same ?_
 .refine CallAll.soft key λv ms hR=>?_
  obtain⟨κ,_,rfl,rfl⟩:=hR;refine⟨i,rvX (κ::R),rvX R,true,0,[],[(i,rvC R)],?_,qze (List.sublist_cons_self ..),?_,rfl,rfl⟩
  .show(h.set i _)[i]?=_;rw[xr hil]
  .show(h.set i _).set i _=h.set i _;rw[yk]
 rintro⟨⟩ -
 repeat' (refine Ba ?_;first|refine Q2J ?_|fail)
 refine Ba ?_
 refine Bg (q21 R 0 _ Q4R) λv ms hR=>?_
 obtain⟨rt,hT,rfl,rfl⟩:=hR
 repeat' (refine Ba ?_;first|refine Q2J ?_|refine Bc (jb0 rt rb (rt::R) bs hT hB hl (yp ..) (ym _ hb) 0 _ Q4R) ?_|refine Bj ?_|refine Bh rt ⟨xb,?_⟩|refine Q3B ?_|refine Bb Q4p ?_|refine Q3v ?_|exact Bd|fail)
theorem q22(n m:Int)(w:World):xa 238 #[xc n,xc m] w (.bool (decide (0<=n/\n<=m))):=by
 refine qah (G:=tys) w tysOK mixed func238 Q4R Q4S Q4Q ?_;exact Q0f
theorem q9j(n m:Int)(h:Hp):qae prog 238 [xc n,xc m] h (.bool (decide (0<=n/\n<=m))) [] []:=qaj rfl rfl (call238 _) (q22 n m)
theorem qwo(n:Int)(w:World):xa 237 #[xc n] w (.bool (decide (0<=n/\n<64))):=by
 refine qah (G:=tys) w tysOK mixed func237 Q4R Q4S Q4Q ?_;exact Q0f
theorem qkl(n:Int)(h:Hp):qae prog 237 [xc n] h (.bool (decide (0<=n/\n<64))) [] []:=qaj rfl rfl (call237 _) (qwo n)
theorem jdf{v:Value}{b:Bool}{p:Prop}[Decidable p](h:b=true↔p):Value.tuple #[v,.bool b]=.tuple #[v,.bool (decide p)]:=by
 by_cases hp:p
 .rw[h.2 hp,xg hp]
 .rw[xj hp];cases b with
  | false=>rfl
  | true=>exact absurd (h.1 rfl) hp
abbrev frF(k s b q st ds t1 t2 wh wn x y a c d:Int):Value:=.agg ⟨[xc k,xc s,xc b,xc q,xc st,xc ds,xc t1,xc t2,xc wh,xc wn,xc x,xc y,xc a,xc c,xc d]⟩
theorem q0w(s b q st ds t1 t2 wh wn x y a c d:Int)(w:World):xa 236 #[frF 1 s b q st ds t1 t2 wh wn x y a c d] w (.tuple #[frF 1 s b q st ds t1 t2 wh wn x y a c d,.bool (decide (True))]):=Q0g
theorem q0x(s b q st ds t1 t2 wh wn x y a c d:Int)(w:World):xa 236 #[frF 5 s b q st ds t1 t2 wh wn x y a c d] w (.tuple #[frF 5 s b q st ds t1 t2 wh wn 0 0 0 0 0,.bool (decide (q4e x y a c d))]):=Q0g
theorem qtw(x y:Operand):BinIs prog .eql 65 x y (.agg ⟨[xc 0,xc 0,xc 0,xc 0,xc 0]⟩) (.agg ⟨[xc 0,xc 0,xc 0,xc 0,xc 0]⟩) (.bool true):=⟨rfl,rfl,rfl,λw=>by go_simp⟩
theorem q0y(s b q st:Int)(h:Hp):qae prog 236 [frF 1 s b q st 0 0 0 0 0 0 0 0 0 0] h (.tuple #[frF 1 s b q st 0 0 0 0 0 0 0 0 0 0,.bool true]) [] []:=qaj rfl rfl (call236 _) λw=>(q0w s b q st 0 0 0 0 0 0 0 0 0 0 w).mono λe w' ⟨he,hB⟩=>⟨by rw[he,xg (show True from xb)],hB⟩
theorem qwp(s b q st:Int)(hs:0<=s/\s<64)(hb:0<=b/\b<=65535)(hq:0<=q/\q<=65535)(hst:0<=st/\st<=1000000)(w:World):xa 203 #[frF 1 s b q st 0 0 0 0 0 0 0 0 0 0] w (.bool true):=by
 refine Q1m ?_;repeat' (refine Ba ?_;first|refine Q2J ?_|refine Q2T ?_|refine Bc (q0y s b q st _) ?_|refine Q3u ?_|fail)
 all_goals rfl
theorem q0z(s b q st:Int)(hs:0<=s/\s<64)(hb:0<=b/\b<=65535)(hq:0<=q/\q<=65535)(hst:0<=st/\st<=1000000)(h:Hp):qae prog 203 [frF 1 s b q st 0 0 0 0 0 0 0 0 0 0] h (.bool true) [] []:=qaj rfl rfl (call203 _) (qwp s b q st hs hb hq hst)
theorem q00(s b q st:Int)(x y a c d:Int)(hm:q4e x y a c d)(h:Hp):qae prog 236 [frF 5 s b q st 0 0 0 0 0 x y a c d] h (.tuple #[frF 5 s b q st 0 0 0 0 0 0 0 0 0 0,.bool true]) [] []:=qaj rfl rfl (call236 _) λw=>(q0x s b q st 0 0 0 0 0 x y a c d w).mono λe w' ⟨he,hB⟩=>⟨by rw[he,xg (show q4e x y a c d from hm)],hB⟩
theorem qwq(s b q st:Int)(x y a c d:Int)(hs:0<=s/\s<64)(hb:0<=b/\b<=65535)(hq:0<=q/\q<=65535)(hst:0<=st/\st<=1000000)(hm:q4e x y a c d)(w:World):xa 203 #[frF 5 s b q st 0 0 0 0 0 x y a c d] w (.bool true):=by
 refine Q1m ?_;repeat' (refine Ba ?_;first|refine Q2J ?_|refine Q2T ?_|refine Bc (q00 s b q st x y a c d hm _) ?_|refine Q3u ?_|fail)
 all_goals rfl
theorem q01(s b q st:Int)(x y a c d:Int)(hs:0<=s/\s<64)(hb:0<=b/\b<=65535)(hq:0<=q/\q<=65535)(hst:0<=st/\st<=1000000)(hm:q4e x y a c d)(h:Hp):qae prog 203 [frF 5 s b q st 0 0 0 0 0 x y a c d] h (.bool true) [] []:=qaj rfl rfl (call203 _) (qwq s b q st x y a c d hs hb hq hst hm)
theorem qwr:∃ei,prog.info? 5=some ei/\ei.size=1/\ei.zero=some (.int .u8 0):=by
 obtain⟨ei,d,h1,h2,h3⟩:=qak tysOK (t:=5) (K:=λei _=>ei.size=1/\ei.zero=some (.int .u8 0)) ⟨rfl,rfl⟩;exact⟨ei,h1,h3⟩
def q9k(k s b q st ds t1 t2 wh wn x y a c d:Int):List Int:=[97,108,105,49]++be k 1++be s 1++be ds 1++be wh 1++be b 2++be q 2++be st 8++be t1 8++be t2 8++be wn 8++be x 4++be y 4++be a 8++be c 8++be d 8
def encB(k s b q st ds t1 t2 wh wn x y a c d:Int):List Int:=q9k k s b q st ds t1 t2 wh wn x y a c d++be (IntKind.i64.wrap (q8i (q9k k s b q st ds t1 t2 wh wn x y a c d))) 4
theorem qb8(n:Int)(w:Nat):(be n w).length=w:=qnx n w w
def Fi(n:Int):Prop:=-9223372036854775808<=n/\n<=9223372036854775807
theorem qws(k s b q st ds t1 t2 wh wn x y a c d:Int)(hk:Fi k)(hs:Fi s)(hb:Fi b)(hq:Fi q)(hst:Fi st)(hds:Fi ds)(ht1:Fi t1)(ht2:Fi t2)(hwh:Fi wh)(hwn:Fi wn)(hx:Fi x)(hy:Fi y)(ha:Fi a)(hc:Fi c)(hd:Fi d)(hM:∀h,qae prog 203 [frF k s b q st ds t1 t2 wh wn x y a c d] h (.bool true) [] [])(W:World)(hW:0<W.heap.size):
  Calls prog 165 #[frF k s b q st ds t1 t2 wh wn x y a c d] W λe w'=>∃r:Rw,BufOK r (encB k s b q st ds t1 t2 wh wn x y a c d)/\e=.returned (den (λ_=>(0,0)) (.tuple #[uV (some r.sl),xc 0]))/\Below W.heap.size W w'/\∀q∈[r],RwAt w' q/\W.heap.size<=q.b:=by
 letI:ZW:=⟨some W⟩
 refine qsg (vs:=[frF k s b q st ds t1 t2 wh wn x y a c d]) W rfl (fun(r:Rw)=>.tuple #[uV (some r.sl),xc 0]) (λr=>[r]) (λr=>BufOK r (encB k s b q st ds t1 t2 wh wn x y a c d)) tysOK mixed func165 Q4R hW rfl (fun(κ:Rw) r r'=>by
  have e:∀r,den2 r (uV (some κ.sl))=uR (some κ.sl):=λr=>qjt (some κ.sl) r
  have e2:∀r,den r (.tuple #[uV (some κ.sl),xc 0])=.tuple #[uR (some κ.sl),xc 0]:=λr=>by
   show Value.tuple (#[uV (some κ.sl),xc 0].map (den2 r))=_;simp only[yr,xk,xZ,e];rfl
  rw[e2,e2]) ?_
 repeat' (refine Ba ?_;first|refine Q2L ?_|refine Q2N ?_|refine Bc (hM _) ?_|refine Q2W ?_|fail)
 refine Ba ?_
 refine N.altP ?_
 obtain⟨ei,h1,h2,h3⟩:=qwr
 refine qqb (ei:=ei) (z:=.int .u8 0) (out:=[.int .u8 97,.int .u8 108,.int .u8 105,.int .u8 49]) (R:=[]) (i:=0) rfl (by exact⟨_,_,rfl,⟨rfl,rfl⟩,_,_,rfl,⟨rfl,rfl⟩,_,_,rfl,⟨rfl,rfl⟩,_,_,rfl,⟨rfl,rfl⟩,rfl⟩) underlying30 h1 h3 rfl (by rw[h2];rfl) Q5R Q5R (by rw[h2];rfl) (by rw[h2];rfl) rfl Q5R Q4R λbb=>?_
 have hr0:BufOK ⟨true,5,ei.size,bb,0,4,4,[.int .u8 97,.int .u8 108,.int .u8 105,.int .u8 49]⟩ [97,108,105,49]:=⟨rfl,rfl,h2,rfl,rfl⟩
 generalize hg0:(⟨true,5,ei.size,bb,0,4,4,[.int .u8 97,.int .u8 108,.int .u8 105,.int .u8 49]⟩:Rw)=r0 at hr0
 have hg1:(some ⟨bb,0,4,4,none⟩:Option Sl)=some r0.sl:=by rw[<-hg0]
 rw[hg1]
 repeat' (refine Ba ?_;first|refine Q2L ?_|refine Q2N ?_|refine N.op (qzd (i:=0) r0 rfl rfl underlying30 underlying5 hr0.w Q3Z Q4R) ?_|refine Q3k ?_|refine Q2T ?_|fail)
 refine Ba ?_
 refine Bg (q5i r0 [] _ hr0 k hk 1 Q4T Q4Y 0 _ Q4R) λv ms hR=>?_
 obtain⟨r1,hr1,rfl,rfl⟩:=hR
 repeat' (refine Ba ?_;first|refine Q2L ?_|refine Q2N ?_|refine Q30 ?_|refine Q2R ?_|fail)
 refine Ba ?_
 refine Bg (q5i r1 [] _ hr1 s hs 1 Q4T Q4Y 0 _ Q4R) λv ms hR=>?_
 obtain⟨r2,hr2,rfl,rfl⟩:=hR
 repeat' (refine Ba ?_;first|refine Q2L ?_|refine Q2N ?_|refine Q30 ?_|refine Q2R ?_|fail)
 refine Ba ?_
 refine Bg (q5i r2 [] _ hr2 ds hds 1 Q4T Q4Y 0 _ Q4R) λv ms hR=>?_
 obtain⟨r3,hr3,rfl,rfl⟩:=hR
 repeat' (refine Ba ?_;first|refine Q2L ?_|refine Q2N ?_|refine Q30 ?_|refine Q2R ?_|fail)
 refine Ba ?_
 refine Bg (q5i r3 [] _ hr3 wh hwh 1 Q4T Q4Y 0 _ Q4R) λv ms hR=>?_
 obtain⟨r4,hr4,rfl,rfl⟩:=hR
 repeat' (refine Ba ?_;first|refine Q2L ?_|refine Q2N ?_|refine Q30 ?_|refine Q2R ?_|fail)
 refine Ba ?_
 refine N.altP ?_
 refine Bp [0,1,2,4,5] [(3,[]),(6,[7])] Q4U ?_
 repeat' (refine Ba ?_;first|refine Q2J ?_|refine Q3k ?_|refine Q2T ?_|fail)
 refine Ba ?_
 refine qbp [0] _ Q53 (λh₂ hh=>q5i r4 [] _ hr4 b hb 2 Q4T Q4Y 0 h₂ Q4h) λv ms hM_=>?_
 obtain⟨r5,hr5,rfl,rfl⟩:=hM_
 refine⟨by simp,?_⟩
 repeat' (refine Ba ?_;first|refine Q2J ?_|refine Q3k ?_|refine Q2T ?_|fail)
 refine Ba ?_
 refine qbp [0] _ Q53 (λh₂ hh=>q5i r5 [] _ hr5 q hq 2 Q4T Q4Y 0 h₂ Q4h) λv ms hM_=>?_
 obtain⟨r6,hr6,rfl,rfl⟩:=hM_
 refine⟨by simp,?_⟩
 repeat' (refine Ba ?_;first|refine Q2J ?_|refine Q3k ?_|refine Q2T ?_|fail)
 repeat' (refine Ba ?_;first|refine Q2L ?_|refine Q2N ?_|refine Q30 ?_|refine Q2R ?_|fail)
 refine Ba ?_
 refine Bg (q5i r6 [] _ hr6 st hst 8 Q4T Q4Y 0 _ Q4R) λv ms hR=>?_
 obtain⟨r7,hr7,rfl,rfl⟩:=hR
 repeat' (refine Ba ?_;first|refine Q2L ?_|refine Q2N ?_|refine Q30 ?_|refine Q2R ?_|fail)
 refine Ba ?_
 refine Bg (q5i r7 [] _ hr7 t1 ht1 8 Q4T Q4Y 0 _ Q4R) λv ms hR=>?_
 obtain⟨r8,hr8,rfl,rfl⟩:=hR
 repeat' (refine Ba ?_;first|refine Q2L ?_|refine Q2N ?_|refine Q30 ?_|refine Q2R ?_|fail)
 refine Ba ?_
 refine Bg (q5i r8 [] _ hr8 t2 ht2 8 Q4T Q4Y 0 _ Q4R) λv ms hR=>?_
 obtain⟨r9,hr9,rfl,rfl⟩:=hR
 repeat' (refine Ba ?_;first|refine Q2L ?_|refine Q2N ?_|refine Q30 ?_|refine Q2R ?_|fail)
 refine Ba ?_
 refine Bg (q5i r9 [] _ hr9 wn hwn 8 Q4T Q4Y 0 _ Q4R) λv ms hR=>?_
 obtain⟨r10,hr10,rfl,rfl⟩:=hR
 repeat' (refine Ba ?_;first|refine Q2L ?_|refine Q2N ?_|refine Q30 ?_|refine Q2R ?_|fail)
 refine Ba ?_
 refine N.altP ?_
 refine Bp [0,1,2,3,4,6,7,8,9] [(5,[]),(10,[11])] Q4U ?_
 repeat' (refine Ba ?_;first|refine Q2J ?_|refine Q3k ?_|refine Q2T ?_|fail)
 refine Ba ?_
 refine qbp [0] _ Q53 (λh₂ hh=>q5i r10 [] _ hr10 x hx 4 Q4T Q4Y 0 h₂ Q4h) λv ms hM_=>?_
 obtain⟨r11,hr11,rfl,rfl⟩:=hM_
 refine⟨by simp,?_⟩
 repeat' (refine Ba ?_;first|refine Q2J ?_|refine Q3k ?_|refine Q2T ?_|fail)
 refine Ba ?_
 refine qbp [0] _ Q53 (λh₂ hh=>q5i r11 [] _ hr11 y hy 4 Q4T Q4Y 0 h₂ Q4h) λv ms hM_=>?_
 obtain⟨r12,hr12,rfl,rfl⟩:=hM_
 refine⟨by simp,?_⟩
 repeat' (refine Ba ?_;first|refine Q2J ?_|refine Q3k ?_|refine Q2T ?_|fail)
 repeat' (refine Ba ?_;first|refine Q2L ?_|refine Q2N ?_|refine Q31 ?_|refine Q2R ?_|fail)
 refine Ba ?_
 refine Bg (q5i r12 [] _ hr12 a ha 8 Q4T Q4Y 0 _ Q4R) λv ms hR=>?_
 obtain⟨r13,hr13,rfl,rfl⟩:=hR
 repeat' (refine Ba ?_;first|refine Q2L ?_|refine Q2N ?_|refine Q31 ?_|refine Q2R ?_|fail)
 refine Ba ?_
 refine Bg (q5i r13 [] _ hr13 c hc 8 Q4T Q4Y 0 _ Q4R) λv ms hR=>?_
 obtain⟨r14,hr14,rfl,rfl⟩:=hR
 repeat' (refine Ba ?_;first|refine Q2L ?_|refine Q2N ?_|refine Q31 ?_|refine Q2R ?_|fail)
 refine Ba ?_
 refine Bg (q5i r14 [] _ hr14 d hd 8 Q4T Q4Y 0 _ Q4R) λv ms hR=>?_
 obtain⟨r15,hr15,rfl,rfl⟩:=hR
 repeat' (refine Ba ?_;first|refine Q2L ?_|refine Q2N ?_|refine Q31 ?_|refine Q2R ?_|fail)
 refine Ba ?_
 refine Bg (jde r15 [r15] _ hr15 Q4Y Q3Z 0 _ Q4R) λv ms hR=>?_
 obtain⟨rfl,rfl⟩:=hR
 repeat' (refine Ba ?_;first|refine Q2L ?_|refine Q2N ?_|fail)
 have hsum:Fi (IntKind.i64.wrap (q8i (q9k k s b q st ds t1 t2 wh wn x y a c d))):=by
  unfold Fi;rw[yt];omega
 refine Ba ?_
 refine Bg (q5i r15 [] _ hr15 (IntKind.i64.wrap (q8i (q9k k s b q st ds t1 t2 wh wn x y a c d))) hsum 4 Q4T Q4Y 0 _ Q4R) λv ms hR=>?_
 obtain⟨r16,hr16,rfl,rfl⟩:=hR
 repeat' (refine Ba ?_;first|refine Q2L ?_|refine Q2N ?_|fail)
 refine Ba ?_
 exact N.mk ⟨r16,hr16,rfl,rfl⟩
open Go Go.RowKit Sx
theorem qwt{h:Hp}{i:Nat}{c:Chunk}(hi:h[i]?=some (some c)):h.set i (some c)=h:=by
 refine xO λj=>?_
 by_cases e:i=j
 .subst e;rw[xr (xe.1 hi).1,hi]
 .rw[xt e]
theorem q23{w:World}{B g c:Nat}(h:w.ownsRow B 5 1 (.slice (some ⟨g,0,none⟩) bs.length c) bs.length (bs.map (Value.int .u8))):ByAt w ⟨g,c,bs⟩:=by
 refine⟨(World.ownsRow.lt h g rfl).2,λj hj=>?_,λj hj=>World.ownsRow.frozenAt h j⟩;have hj:j<bs.length:=hj;rw[World.ownsRow.cellAt h j Q4P];simp[xL,hj]
abbrev mailV(to_:Int)(u:Option Sl)(at_ tr:Int)(be:Bool):Value:=.agg ⟨[xc to_,uV u,xc at_,xc tr,.bool be]⟩
abbrev q78(to_:Int)(u:Option Sl)(at_ tr:Int)(be:Bool):Value:=.agg ⟨[xc to_,uR u,xc at_,xc tr,.bool be]⟩
theorem qh5(to_:Int)(u:Option Sl)(at_ tr:Int)(be:Bool)(ρ:Rz):den ρ (mailV to_ u at_ tr be)=q78 to_ u at_ tr be:=by
 show Value.agg (#[xc to_,uV u,xc at_,xc tr,.bool be].map (den1 ρ))=_;have e:=qsb u ρ;simp only[yr,xk,xZ];rw[e];rfl
theorem qpr(to_:Int)(u:Option Sl)(at_ tr:Int)(be:Bool):Re2 ix (mailV to_ u at_ tr be) (mailV to_ u at_ tr be):=.agg ⟨.plain rfl,qsc u,.plain rfl,.plain rfl,.plain rfl,xb⟩
theorem q9l(W:World)(F:List By)(u:Option Sl)(bs:List Int)(hs:Src W F u bs)(hm:bs.length<=1048576)(to_ at_ tr:Int)(be:Bool)(i:Nat)(h:Hp)(hi:h[i]?=some (some (q3v W F))):
  CallAll prog 178 [mailV to_ u at_ tr be] h λv ms=>∃u' F',Made F bs u' F'/\v=mailV to_ u' at_ tr be/\ms=[(i,q3v W F')]:=λX ρ w xs H hx=>by
 obtain⟨S,E⟩:=H.ext
 have M:MemOK W F (ρ i) (S i) w:=E.inv i _ hi
 have hb:=M.src hs
 match xs,hx with
 | [x],hx=>
  obtain rfl:q78 to_ u at_ tr be=x:=by have:=hx.1.self;rwa[qh5] at this
  refine .inr ⟨call178 _ w,?_⟩;cases u with
  | none=>
   obtain rfl:bs=[]:=yG.1 hb.1;refine(qzb to_ at_ tr be w).mono ?_;rintro e w' ⟨rfl,hB⟩;refine⟨_,rfl,mailV to_ none at_ tr be,_,ρ,⟨none,F,.nil rfl,rfl,rfl⟩,AgreeOn.refl _ _,?_,λr _=>qh5 _ _ _ _ _ r⟩;show HOK X ρ (h.set i (some (q3v W F))) w';rw[qwt hi];exact H.frame hB
  | some s=>
   have hn:bs.length=s.n:=hb.1;have hc:∀j,j<bs.length->w.cell? ((⟨s.b,s.o,s.sp⟩:Addr).add j)=some (.int .u8 (bs.getD j 0)):=λj hj=>by
    obtain⟨h1,h2⟩:=hb.2 s rfl;have hsp:s.sp=none:=by rcases h1 with h1|h1;exact h1;omega
    rw[hsp,qb7];exact h2 j hj
   have:=qvf to_ at_ tr be ⟨s.b,s.o,s.sp⟩ s.c bs w hm hc;rw[hn] at this;refine this.mono ?_;rintro e w' ⟨g,c,rfl,ho,hg,hB⟩;rw[<-hn] at ho;have hat:=q23 ho;obtain⟨hno,H'⟩:=qor (e:=⟨g,c,bs⟩) H hi hB hat hg;refine⟨_,rfl,mailV to_ (By.mk g c bs).s at_ tr be,_,ρ,⟨_,_,.new hno,rfl,rfl⟩,AgreeOn.refl _ _,H',λr _=>?_⟩;rw[qh5];show q78 to_ (some ⟨g,0,bs.length,c,none⟩) at_ tr be=_;rw[hn];rfl
theorem qmn{f:FuncId}{fn:Func}{c:Code}{V:Value}(W:World)(hG:q32 prog tys)(hm:prog.follows .mixedOrders=true)(hf:prog.funcs[f]?=some fn)(hb:fn.body=some c)(hW:0<W.heap.size)(hp:vs.all qai=true)(hV:qar V=true)
  (hwp:initK vs fn.ntmps λt=>wpC prog tys 1 c (bodyQ prog tys fn λv st=>N (v=V/\∃F,st.h[0]?=some (some (q3v W F)))) ⟨t,[some (q3v W [])]⟩):Calls prog f ⟨vs⟩ W λe w'=>e=.returned V/\Below W.heap.size W w':=by
 let X:Ctx:=⟨W,λa=>a.block<W.heap.size,1,λ_=>(0,0)⟩
 have one:∀(k:Nat)(d:Chunk),[some (q3v W [])][k]?=some (some d)->k=0/\d=q3v W []:=λk d hk=>Q1H
 have H:HOK X (λ_=>(0,0)) [some (q3v W [])] W:=by
  refine⟨Evo.refl _ _,λi hi=>⟨⟨_,by
    have hi:i<1:=hi;obtain rfl:i=0:=by omega
    rfl⟩,rfl⟩,λk d hk=>hW,λk d hk j hj=>?_,λk d hk ho j hj=>?_,λk d l e hk ho hl hne=>?_,λi b=>i=0/\b<W.heap.size,λk d hk=>?_,λk d b hk hS=>?_,λk d b l e hk hS hl hne=>?_⟩
  .exact Q18
  .exact Q18
  .exact Q23
  .obtain⟨rfl,rfl⟩:=one k d hk;exact⟨λ_=>hW,λb=>⟨λh=>.inl h.2,λh=>by
    rcases h with h|⟨e,he,_⟩
    .exact⟨rfl,h⟩
    .cases he⟩,nlr _,λ_ _=>rfl,xE,λe he=>by cases he⟩
  .exact Q1E
  exact Q22
 have hd:∀{vs:List Value},vs.all qai=true->All2 (Den (Fil [some (q3v W [])]) λ_=>(0,0)) vs vs:=by
  intro vs
  induction vs with
  | nil=>exact λ_=>trivial
  | cons v r ih=>
   exact Q1s
 refine(qd5 (args:=⟨vs⟩) (X:=X) hG hm hf hb H (hd hp) hwp).mono ?_
 rintro e w' ⟨ρ',v,st,x,rfl,H',hdx,hq⟩
 obtain⟨rfl,F,hF⟩:=hq.out
 obtain⟨S,E⟩:=H'.ext
 have M:MemOK W F (ρ' 0) (S 0) w':=E.inv 0 _ hF
 exact⟨by rw[<-hdx.self,qa7 hV],H'.evo.os,H'.evo.tape,H'.evo.output,H'.evo.size,λb hb=>M.old b hb⟩
theorem q24{w:World}{r:Rw}(hr:BufOK r bs)(hA:RwAt w r):r.o=0/\ByAt w ⟨r.b,r.c,bs⟩:=by
 obtain⟨q4,cur,z,hh,hz,hs⟩:=hA.own hr.w;have hl:r.xs.length=bs.length:=by rw[hr.xs,yN]
 refine⟨q4,hA.lt,λj hj=>?_,λj hj=>?_⟩
 .have hj:j<bs.length:=hj;have h1:=hA.cell j Q4P;rw[q4,xl,hr.xs,xN,xn hj] at h1;show w.cell? ⟨r.b,j,none⟩=some (.int .u8 (bs.getD j 0));rw[h1,xL,xn hj];rfl
 .have hj:j<bs.length:=hj;have hc:=hA.cap;have hn:=hr.n;have hk:=hr.k;rw[hk,xU] at hs;exact(qos hh hz j Q4P).2
theorem q25{r:Rw}(hr:BufOK r bs)(h0:r.o=0):(some r.sl:Option Sl)=(By.mk r.b r.c bs).s:=by
 show(some ⟨r.b,r.o,r.n,r.c,none⟩:Option Sl)=some ⟨r.b,0,bs.length,r.c,none⟩;rw[h0,hr.n]
theorem qwu(W:World)(F:List By)(k s b q st ds t1 t2 wh wn x y a c d:Int)(hk:Fi k)(hs:Fi s)(hb:Fi b)(hq:Fi q)(hst:Fi st)(hds:Fi ds)(ht1:Fi t1)(ht2:Fi t2)(hwh:Fi wh)(hwn:Fi wn)(hx:Fi x)(hy:Fi y)(ha:Fi a)(hc:Fi c)(hd:Fi d)(hM:∀h,qae prog 203 [frF k s b q st ds t1 t2 wh wn x y a c d] h (.bool true) [] [])(i:Nat)(h:Hp)(hi:h[i]?=some (some (q3v W F))):
  CallAll prog 165 [frF k s b q st ds t1 t2 wh wn x y a c d] h λv ms=>∃e:By,e.bs=encB k s b q st ds t1 t2 wh wn x y a c d/\e.b∉F.map By.b/\v=.tuple #[uV e.s,xc 0]/\ms=[(i,q3v W (e::F))]:=λX ρ w xs H hxs=>by
 obtain rfl:=qca (vs:=[frF k s b q st ds t1 t2 wh wn x y a c d]) rfl hxs
 obtain⟨S,E⟩:=H.ext
 have M:MemOK W F (ρ i) (S i) w:=E.inv i _ hi
 refine .inr ⟨call165 _ w,(qws k s b q st ds t1 t2 wh wn x y a c d hk hs hb hq hst hds ht1 ht2 hwh hwn hx hy ha hc hd hM w (by have:=H.lt _ _ hi;omega)).mono ?_⟩
 rintro e w' ⟨r,hr,rfl,hB,hA⟩
 obtain⟨hA,hge⟩:=hA r (xQ.2 rfl)
 obtain⟨h0,hby⟩:=q24 hr hA
 obtain⟨hno,H'⟩:=qor (e:=⟨r.b,r.c,encB k s b q st ds t1 t2 wh wn x y a c d⟩) H hi hB hby hge
 have e:∀r2,den2 r2 (uV (some r.sl))=uR (some r.sl):=λr2=>qjt (some r.sl) r2
 have e2:∀r2,den r2 (.tuple #[uV (some r.sl),xc 0])=.tuple #[uR (some r.sl),xc 0]:=λr2=>by
  show Value.tuple (#[uV (some r.sl),xc 0].map (den2 r2))=_;simp only[yr,xk,xZ,e];rfl
 refine⟨_,rfl,.tuple #[uV (some r.sl),xc 0],_,ρ,⟨⟨r.b,r.c,encB k s b q st ds t1 t2 wh wn x y a c d⟩,rfl,hno,by rw[q25 hr h0],rfl⟩,AgreeOn.refl _ _,H',λr2 _=>?_⟩
 rw[e2,e2]
open Go Go.RowKit Sx
theorem q02{h:Hp}(hh:h[k]?=some (some ⟨true,n,[(0,n,.agg ⟨segL n (repZ 1 (.bool false))⟩)]⟩)):PostC ix h k (mvP true n λ_=>false):=
 ⟨_,hh,id,nlr _,λj hj=>by
  have hj:j<n:=hj;rw[qbn hj,qbn hj];rw[show repZ 1 (.bool false) j=.bool false from(qch j).symm];exact .plain rfl⟩
theorem q03(c:Nat->Int)(n cap i j k m:Nat)(P:Nat->Int)(M:Nat->Bool)(tm st:Int)(o2 o3:Bool)(h:Hp)(hi:h[i]?=some (some (wcc true c n cap j k tm st)))(hj:h[j]?=some (some (ptP o2 n P)))(hk:h[k]?=some (some (mvP o3 n M)))(hm:h[m]?=some none)(hij:i≠j)(hik:i≠k)(hn:1<=n/\n<=64)(ht:0<=tm/\tm<750000):
  qae prog 130 [xd i] h (.bool true) [(i,wcc true c n cap j m (tm+1) 0),(m,mvP true n λ_=>false)] [j,k]:=by
 have e1:IntKind.i64.wrap (tm+1)=tm+1:=q36 _ Q4P Q4P
 refine qau (G:=tys) [⟨i,_,wcc true c n cap 1 2 tm st,wcc true c n cap j m (tm+1) 0⟩,⟨j,_,ptP false n P,⟨false,0,[]⟩⟩,⟨k,_,mvP false n M,⟨false,0,[]⟩⟩] [⟨m,7,mvP true n λ_=>false⟩] [xd 0] tysOK mixed func130 Q4R (call130) ⟨hi,hj,hk,xb⟩ ⟨⟨λh=>⟨rfl,nlr _⟩,nlr _,qen rfl rfl⟩,Q47,Q46,xb⟩ (by simp[Apart,hij,hik]) ⟨⟨hm,rfl,by show 0<n;omega,by simp⟩,xb⟩ ⟨.ptr rfl,xb⟩ ?_
 repeat' (refine Ba ?_;first|refine Q2J ?_|refine MakeN.mk n n rfl rfl (by show 1*n<=_;omega) Q4P (xU n).symm ?_|refine Q35 ?_|refine Q3B ?_|refine Q3A ?_|refine Bb ⟨⟨by show 3<=7;decide,q02 Q4R⟩,xb⟩ ?_|exact Bd|fail)
end Go.Proofs.YtggfpcfkbilkmaaGreatDoor


namespace Go.Proofs.YtggfpcfkbilkmaaGreatDoor.Sx
open Go Go.RowKit
def sh2(l:Nat):Nat:=match l with
 | 0=>0
 | l+1=>l+2
theorem q26(l:Nat):sh2 l≠1:=by cases l<;>simp[sh2]
theorem qh6{B:Type}{ok:B->Prop}{h:B->Hp}{i j:Nat}{c d c2 e2 d2:Chunk}(o:B->Hp)(ix:Lz)(hix:∀l i,(l,i)∈ix->i=sh2 l)(hn2:e2.n=0)(h1:∀β,(o β)[1]?=some (some e2))
  (hre:∀β,ok β->∀(l:Nat)(dl:Chunk),(h β)[l]?=some (some dl)->∃d':Chunk,(o β)[sh2 l]?=some (some d')/\d'.n=dl.n/\d'.x=dl.x/\∀k,k<d'.n->Re1 ix (d'.f k) (dl.f k))
  (hre':∀β,ok β->∀(k:Nat)(d':Chunk),(o β)[k]?=some (some d')->k=1\/∃l,k=sh2 l/\Fil (h β) l):Opens [⟨i,c,packC ok h,d⟩,⟨j,c2,e2,d2⟩] ok o:=λX ρ w T H=>by
 obtain⟨S,E⟩:=H.ext
 have g0:(partH [⟨i,c,packC ok h,d⟩,⟨j,c2,e2,d2⟩])[0]?=some (some (packC ok h)):=rfl
 have g1:(partH [⟨i,c,packC ok h,d⟩,⟨j,c2,e2,d2⟩])[1]?=some (some e2):=rfl
 have two:∀(k:Nat)(e:Chunk),(partH [⟨i,c,packC ok h,d⟩,⟨j,c2,e2,d2⟩])[k]?=some (some e)->k=0\/k=1:=λk e hk=>by
  match k,hk with
  | 0,_=>exact .inl rfl
  | 1,_=>exact .inr rfl
  | k+2,hk=>simp[partH] at hk
 obtain⟨_,β,hβ,ρp,Tp,e0,hf,K⟩:=E.inv 0 _ g0
 have n0:X.n0=2:=T.n0
 let un:Nat->Nat:=λk=>match k with
  | 0=>0
  | k+1=>k
 have un_sh:∀l,un (sh2 l)=l:=λl=>by cases l<;>rfl
 let ρ':Nat->Nat×Nat:=λk=>if k=1 then ρ 1 else ρp (un k)
 have ρ1:ρ' 1=ρ 1:=if_pos rfl
 have ρs:∀l,ρ' (sh2 l)=ρp l:=λl=>by
  show(if sh2 l=1 then ρ 1 else ρp (un (sh2 l)))=_;rw[if_neg (q26 l),un_sh]
 have ρ0:ρ' 0=ρ 0:=(ρs 0).trans e0
 have fil0:Fil (o β) 0:=by
  obtain⟨dl,hdl⟩:=hf;obtain⟨d',hd',_⟩:=hre β hβ 0 dl hdl;exact⟨d',hd'⟩
 have filS:∀l,Fil (h β) l->Fil (o β) (sh2 l):=λl ⟨dl,hdl⟩=>by
  obtain⟨d',hd',_⟩:=hre β hβ l dl hdl;exact⟨d',hd'⟩
 have old:∀(k:Nat)(d':Chunk),(o β)[k]?=some (some d')->k≠1->∃(l:Nat)(dl:Chunk),k=sh2 l/\(h β)[l]?=some (some dl)/\d'.n=dl.n/\d'.x=dl.x/\∀q,q<d'.n->Re1 ix (d'.f q) (dl.f q):=λk d' hk hne=>by
  rcases hre' β hβ k d' hk with rfl|⟨l,rfl,dl,hdl⟩
  .exact absurd rfl hne
  .obtain⟨d2,hd2,r1,r2,r3⟩:=hre β hβ l dl hdl;rw[hk] at hd2;obtain rfl:d'=d2:=by simpa using hd2
   exact⟨l,dl,rfl,hdl,r1,r2,r3⟩
 refine⟨β,hβ,ρ',λk hk=>?_,λk hk=>?_,?_⟩
 .obtain⟨e,he⟩:=hk;rcases two k e he with rfl|rfl
  .exact ρ0
  .exact ρ1
 .obtain⟨e,he⟩:=hk;rcases two k e he with rfl|rfl
  .exact fil0
  .exact⟨_,h1 β⟩
 .refine H.redo (T:=λk b=>Tp (un k) b) E (λk=>k=0) (λk=>k≠1) (S 0) (λb hb=>⟨0,_,rfl,g0,.inr hb⟩) (λb hb=>(E.mine 0 _ b g0 hb).2.2) (λk hk=>?_) (λk e hk hA=>?_) (λk e hk hA=>?_) (λk e l f hk hA hl hB hne=>?_)
  .rw[n0] at hk;have:k=0\/k=1:=by omega
   rcases this with rfl|rfl
   .exact⟨fil0,ρ0⟩
   .exact⟨⟨_,h1 β⟩,ρ1⟩
  .obtain rfl:k=1:=Decidable.not_not.1 hA;rw[h1 β] at hk;obtain rfl:e2=e:=by simpa using hk
   exact⟨by decide,ρ1,g1,λq hq=>by rw[hn2] at hq;exact absurd hq (xS q)⟩
  .obtain⟨l,dl,rfl,hdl,r1,r2,r3⟩:=old k e hk hA;have hu:=un_sh l;refine⟨by rw[ρs];exact K.blk l dl hdl,λq hq=>?_,λ_ q hq=>by rw[ρs];exact K.own l dl hdl q Q4P,?_,λb hb=>?_⟩
   .obtain⟨x,hx,hxd⟩:=K.cell l dl hdl q Q4P;rw[ρs];refine⟨x,hx,λr hr=>?_⟩;rw[(r3 q hq).den (r:=r) (r':=λk=>r (sh2 k)) (λa b hab=>by rw[hix a b hab])];exact hxd (λk=>r (sh2 k)) λk hk=>(hr _ (filS k hk)).trans (ρs k)
   .rw[r2,ρs];have:(λb=>Tp (un (sh2 l)) b)=Tp l:=by rw[hu]
    rw[this];exact K.inv l dl hdl
   .rw[hu] at hb;obtain⟨q1,q2⟩:=K.foot l dl b hdl hb;exact⟨q1,by rw[r1,ρs];exact q2⟩
  .obtain⟨a,da,rfl,hda,_⟩:=old k e hk hA;obtain⟨b,db,rfl,hdb,_⟩:=old l f hl hB;have hab:a≠b:=λe=>hne (by rw[e])
   obtain⟨q1,q2⟩:=K.sep a da b db hda hdb hab;exact⟨λ_=>by rw[ρs,ρs];exact q1,λx hx=>by rw[un_sh] at hx ⊢;rw[ρs];exact q2 x hx⟩
end Go.Proofs.YtggfpcfkbilkmaaGreatDoor.Sx


namespace Go.Proofs.YtggfpcfkbilkmaaGreatDoor
open Go Go.RowKit Sx
variable{slot:Nat}
theorem App0N.mk1{cj:Chunk}{g m size bytes:Nat}{z:Value}{K:Value->Mz->Prop}(v:Value)(hr:Reads cj g true (m*size) v)(h0:0<m)(h1:m<=9223372036854775807)(h2:m*bytes<=140737488355328)
  (k:∀cap,m<=cap->K (.slice (some ⟨slot,0,some 0⟩) m cap) [(slot,grown ⟨true,0,[]⟩ 0 m size v z cap)]):N (App0N cj g m size bytes z slot K):=N.mk (.inl ⟨v,hr,h0,h1,h2,k⟩)
variable{k c:Nat}
theorem AppN.mk1{ci:Chunk}{s l:Nat}{cj:Chunk}{g m size bytes:Nat}{z:Value}{K:Value->Mz->Prop}(v:Value)(hr:Reads cj g true (m*size) v)(hf:flatB v (m*size)=true)(hl:l*size<=ci.n)(h1:l+m<=9223372036854775807)(h2:(l+m)*bytes<=140737488355328)
  (d:Chunk) (hw:l+m<=c->Writes ci (l*size) (m*size) v d) (k1:l+m<=c->K (.slice (some ⟨k,0,some s⟩) (l+m) c) [(k,d)]) (k2:c<l+m->∀cap,l+m<=cap->K (.slice (some ⟨slot,0,some 0⟩) (l+m) cap) [(slot,grown ci l m size v z cap)]):N (AppN ci k s l c cj g m size bytes z slot K):=
 N.mk ⟨v,hr,hf,hl,h1,h2,λh=>⟨d,hw h,k1 h⟩,k2⟩
variable{P:Program}{vs:List Value}
theorem N.callM{g:FuncId}{h:Hp}{C:List Nat->Prop}{K:List Nat->Value->Mz->Prop}(hs:List Nat)(R:Value->Mz->Prop)(hC:C hs)(hc:∀h₂:Hp,(∀q∈hs,h₂[q]?=h[q]?)->CallAll P g vs h₂ R)(k:∀v ms,R v ms->(∀q∈ms.map (·.1),q∈hs)/\K hs v ms):N (q6m P g vs h slot C K):=N.mk ⟨hs,R,hC,hc,k⟩
abbrev jae(o:Bool)(v:Value):Chunk:=⟨o,1,[(0,1,.agg #[v])]⟩
theorem N.bnd{lo hi:Option Value}{len cap:Nat}{K:Nat->Nat->Nat->Prop}(p q s:Nat)(hq:Bnd hi len cap q)(hp:Bnd lo 0 q p)(k:K p q s):N (q8o lo hi len cap K):=N.mk ⟨p,q,s,hq,hp,k⟩
structure Ml where
 to_:Int
 u:Option Sl
 at_:Int
 tr:Int
 be:Bool
abbrev Ml.v(m:Ml):Value:=mailV m.to_ m.u m.at_ m.tr m.be
abbrev Ml.z:Ml:=⟨0,none,0,0,false⟩
def mlc(m:Ml):Nat->Value
 | 0=>.int .i64 m.to_
 | 1=>uV m.u
 | 2=>.int .i64 m.at_
 | 3=>.int .i64 m.tr
 | 4=>.bool m.be
 | _=>.int .i64 0
variable{ix:Lz}
theorem qyt(m:Ml)(k:Nat):Re1 ix (mlc m k) (mlc m k):=by unfold mlc;split<;>first|exact .plain rfl|exact qsc _
theorem qyu(m:Ml)(h:k<5):cellIn m.v k=mlc m k:=by
 match k,h with
 | 0,_=>rfl
 | 1,_=>rfl
 | 2,_=>rfl
 | 3,_=>rfl
 | 4,_=>rfl
def Eqv(v v':Value):Prop:=∀r r',den1 r v=den1 r' v'
theorem qh7(m:Ml)(k:Nat):Eqv (mlc m k) (mlc m k):=λr r'=>by
 have:=(qyt m k (ix:=[])).den (r:=r) (r':=r') (λa b h=>by cases h);exact this
theorem qmo{v:Value}{m:Ml}(h:v=mlc m k):Eqv v (mlc m k):=by subst h;exact qh7 m k
theorem qwv(j:Nat):Eqv (repZ 5 (.agg #[xc 0,.slice none 0 0,xc 0,xc 0,.bool false]) j) (mlc Ml.z (j%5)):=by
 unfold repZ;have h:j%5<5:=xB _ Q4T;generalize j%5=k at h
 match k,h with
 | 0,_=>exact qh7 Ml.z 0
 | 1,_=>exact λr r'=>rfl
 | 2,_=>exact qh7 Ml.z 2
 | 3,_=>exact qh7 Ml.z 3
 | 4,_=>exact qh7 Ml.z 4
abbrev mlA(o:Bool)(c:Nat)(T:Nat->Ml):Chunk:=⟨o,c*5,[(0,c*5,.agg ⟨segL (c*5) λj=>mlc (T (j / 5)) (j%5)⟩)]⟩
variable{T:Nat->Ml}
theorem q27{o o':Bool}:∀j,j<c*5->Re1 ix ((mlA o c T).f j) ((mlA o' c T).f j):=λj hj=>by
 rw[qaw hj,qaw hj];exact qyt _ _
def q5p(T:Nat->Ml)(l:Nat)(x:Ml)(i:Nat):Ml:=if i=l then x else T i
variable{n:Nat}{x:Ml}
theorem q28{l p:Nat}(hn:n=5)(h:l<c)(e:p=l*5):Writes (mlA true c T) p n x.v (mlA true c (q5p T l x)):=by
 subst e hn;refine⟨rfl,by show l*5+5<=c*5;omega,rfl,λj hj=>?_⟩;have hj:j<c*5:=hj;rw[qaw hj,qaw hj];unfold q5p;by_cases e:l*5<=j/\j<l*5+5
 .rw[if_pos e,if_pos Q4P,qyu _ Q4P];congr 1;omega
 .rw[if_neg e,if_neg Q4P]
abbrev Ml.bent(m:Ml):Ml:=⟨m.to_,m.u,m.at_,m.tr,true⟩
def q6b(T:Nat->Ml)(l:Nat)(x:Ml)(i:Nat):Ml:=if i<l then T i else if i=l then x else Ml.z
variable{j:Nat}
theorem qmp{ci:Chunk}{l cap:Nat}{z:Value}(hz:z=.agg #[xc 0,.slice none 0 0,xc 0,xc 0,.bool false])(h:l<cap)(hc:∀j,j<l*5->ci.f j=mlc (T (j / 5)) (j%5))(hj:j<cap*5):Eqv ((grown ci l 1 5 x.v z cap).f j) (mlc (q6b T l x (j / 5)) (j%5)):=by
 subst hz;unfold q6b;by_cases h1:j<l*5
 .rw[qdw h1,if_pos Q4P];exact qmo (hc j h1)
 .rw[if_neg Q4P];by_cases h2:j<(l+1)*5
  .have:=qdx (ci:=ci) (l:=l) (m:=1) (size:=5) (cap:=cap) (v:=x.v) (z:=.agg #[xc 0,.slice none 0 0,xc 0,xc 0,.bool false]) (j:=j-l*5) Q4P;rw[show l*5+(j-l*5)=j by omega] at this;rw[this,if_pos Q4P,qyu _ Q4P];refine qmo ?_;congr 1;omega
  .rw[qc0 Q4P hj,if_neg Q4P];exact qwv j
def q5q(L:List Ml):Option (Nat×(Nat->Ml))->Prop
 | none=>L=[]
 | some (c,T)=>1<=c/\L.length<=c/\∀i m,L[i]?=some m->T i=m
abbrev q9m(L:List Ml)(β:Option (Nat×(Nat->Ml))):Hp:=match β with
 | none=>[some (jae true (.slice none 0 0)),none]
 | some (c,T)=>[some (jae true (.slice (some ⟨1,0,some 0⟩) L.length c)),some (mlA true c T)]
abbrev airP(L:List Ml):Chunk:=packC (q5q L) (q9m L)
theorem qny(L:List Ml):(airP L).x≠Ext.none:=λe=>by
 have h1:∀p S w,(airP L).x.inv p S w->S p.1:=qao;exact Q1t
abbrev jb1(W:World)(F:List By)(L:List Ml)(β:Option (Nat×(Nat->Ml))):Hp:=match β with
 | none=>[some (jae true (.slice none 0 0)),some (q3v W F),none]
 | some (c,T)=>[some (jae true (.slice (some ⟨2,0,some 0⟩) L.length c)),some (q3v W F),some (mlA true c T)]
variable{F:List By}{L:List Ml}
theorem qqo{i:Nat}{c d c2 d2:Chunk}{W:World}:Opens [⟨i,c,airP L,d⟩,⟨j,c2,q3v W F,d2⟩] (q5q L) (jb1 W F L):=by
 refine qh6 (jb1 W F L) [(0,0),(1,2)] (λl i hm=>?_) rfl (λβ=>?_) (λβ hβ l dl hl=>?_) (λβ hβ k d' hk=>?_)
 .simp only[xf,Prod.mk.injEq,xA,or_false] at hm;rcases hm with ⟨rfl,rfl⟩|⟨rfl,rfl⟩<;>rfl
 .cases β<;>rfl
 .cases β with
  | none=>
   match l,hl with
   | 0,hl=>
    obtain rfl:_=dl:=by simpa using hl
    exact⟨_,rfl,rfl,rfl,λk hk=>by
     match k,hk with
     | 0,_=>exact .plain rfl⟩
   | 1,hl=>simp at hl
   | l+2,hl=>simp at hl
  | some q=>
   obtain⟨cc,T⟩:=q
   match l,hl with
   | 0,hl=>
    obtain rfl:_=dl:=by simpa using hl
    exact⟨_,rfl,rfl,rfl,λk hk=>by
     match k,hk with
     | 0,_=>exact .slice rfl⟩
   | 1,hl=>
    obtain rfl:_=dl:=by simpa using hl
    exact⟨_,rfl,rfl,rfl,q27⟩
   | l+2,hl=>simp at hl
 .cases β with
  | none=>
   match k,hk with
   | 0,_=>exact .inr ⟨0,rfl,_,rfl⟩
   | 1,_=>exact .inl rfl
   | 2,hk=>simp at hk
   | k+3,hk=>simp at hk
  | some q=>
   match k,hk with
   | 0,_=>exact .inr ⟨0,rfl,_,rfl⟩
   | 1,_=>exact .inl rfl
   | 2,_=>exact .inr ⟨1,rfl,_,rfl⟩
   | k+3,hk=>simp at hk
theorem safeM{h:Hp}{W:World}{h':Hp}(h1:h[1]?=some (some (q3v W F))):∀k∈[1],∀(d:Chunk),h[k]?=some (some d)->∀j,j<d.n->Safe1 h' (d.f j):=λk hk d hd j hj=>by
 obtain rfl:=xQ.1 hk;rw[h1] at hd;obtain rfl:q3v W F=d:=by simpa using hd
 exact absurd hj (xS j)
variable{K:Value->Hp->Prop}{ss:List q3w}
theorem qh8{h:Hp}{v:Value}(m:Nat)(keep:List Nat)(L:List Ml)(k c:Nat)(T:Nat->Ml){a b:Chunk}(hbs:∀i,i<ss.length->i=m\/i∈keep)(hpc:∀l,(l=m\/l=k)->l<ss.length->∃s,ss[l]?=some s/\s.e.x≠Ext.none/\Selfish s.e.x)
  (hc:1<=c) (hl:L.length<=c) (hT:∀i m,L[i]?=some m->T i=m) (h0:h[m]?=some (some a)) (ha:a.own=true) (hn:1<=a.n) (haf:a.f 0=.slice (some ⟨k,0,some 0⟩) L.length c) (hk:h[k]?=some (some b)) (hkm:m≠k) (hb:b.own=true) (hbn:c*5<=b.n) (hbf:∀j,j<c*5->Eqv (b.f j) (mlc (T (j / 5)) (j%5)))
  (hkk:∀x∈keep,x≠m/\x≠k) (hkd:∀x∈keep,∀(d:Chunk),h[x]?=some (some d)->∀j,j<d.n->Safe1 (qa5 (airP L) m keep h 0) (d.f j))
  (hv:∀ρ ρ',AgreeOn (Fil (qa5 (airP L) m keep h 0)) ρ ρ'->den ρ' v=den ρ v) (kk:K v (qa5 (airP L) m keep h 0)):N (q51 ss h v K):=by
 refine qgo (ok:=q5q L) (hB:=q9m L) (some (c,T)) m [(0,m),(1,k)] keep (λl i hm hi=>hpc i ?_ hi) hbs ⟨hc,hl,hT⟩ rfl ⟨_,rfl⟩ ?_ rfl ?_ (λx hx l i hm=>?_) hkd hv (xe.1 h0).1 kk
 .exact Q1M
 .have e2:Nat.beq k m=false:=by
   cases e:Nat.beq k m with
   | false=>rfl
   | true=>exact absurd (xF e).symm hkm
  have e1:Nat.beq 1 0=false:=rfl;simp[q5k,e1,e2]
 .intro l d hd
  match l,hd with
  | 0,hd=>
   obtain rfl:_=d:=by simpa using hd
   refine⟨m,a,rfl,h0,ha,hn,λj hj=>?_,.inl rfl,.inl Q4P⟩
   match j,hj with
   | 0,_=>rw[haf];exact .slice rfl
  | 1,hd=>
   obtain rfl:_=d:=by simpa using hd
   refine⟨k,b,rfl,hk,hb,hbn,λj hj=>?_,.inl rfl,.inl Q4P⟩;have hj:j<c*5:=hj;rw[qaw hj];exact .any (hbf j hj)
  | l+2,hd=>simp at hd
 .have:=hkk x hx;exact Q1M
theorem qi5{h:Hp}{v:Value}(m:Nat)(keep:List Nat){a:Chunk}(hbs:∀i,i<ss.length->i=m\/i∈keep)(hpc:m<ss.length->∃s,ss[m]?=some s/\s.e.x≠Ext.none/\Selfish s.e.x)
  (h0:h[m]?=some (some a)) (ha:a.own=true) (hn:1<=a.n) (haf:a.f 0=.slice none 0 0)
  (hkk:∀x∈keep,x≠m) (hkd:∀x∈keep,∀(d:Chunk),h[x]?=some (some d)->∀j,j<d.n->Safe1 (qa5 (airP []) m keep h 0) (d.f j))
  (hv:∀ρ ρ',AgreeOn (Fil (qa5 (airP []) m keep h 0)) ρ ρ'->den ρ' v=den ρ v) (kk:K v (qa5 (airP []) m keep h 0)):N (q51 ss h v K):=by
 refine qgo (ok:=q5q []) (hB:=q9m []) none m [(0,m)] keep (λl i hm hi=>?_) hbs rfl rfl ⟨_,rfl⟩ rfl rfl ?_ (λx hx l i hm=>?_) hkd hv (xe.1 h0).1 kk
 .simp only[xf,Prod.mk.injEq,xA,or_false] at hm;obtain⟨_,rfl⟩:=hm;exact hpc hi
 .intro l d hd
  match l,hd with
  | 0,hd=>
   obtain rfl:_=d:=by simpa using hd
   refine⟨m,a,rfl,h0,ha,hn,λj hj=>?_,.inl rfl,.inl Q4P⟩
   match j,hj with
   | 0,_=>rw[haf];exact .plain rfl
  | 1,hd=>simp at hd
  | l+2,hd=>simp at hd
 .have:=hkk x hx;exact Q1M
theorem q29(hss:ss.length=2):∀i,i<ss.length->i=0\/i∈[1]:=λi hi=>by
 rw[hss] at hi;have:i=0\/i=1:=by omega
 rcases this with rfl|rfl
 .exact .inl rfl
 .exact .inr Q3Z
theorem qkm{h:Hp}{v:Value}{W:World}(L:List Ml)(k c:Nat)(T:Nat->Ml){a b:Chunk}(hss:ss.length=2)(hpc:∀l,l<1->∃s,ss[l]?=some s/\s.e.x≠Ext.none/\Selfish s.e.x)
  (hc:1<=c) (hl:L.length<=c) (hT:∀i m,L[i]?=some m->T i=m) (h0:h[0]?=some (some a)) (ha:a.own=true) (hn:1<=a.n) (haf:a.f 0=.slice (some ⟨k,0,some 0⟩) L.length c) (h1:h[1]?=some (some (q3v W F))) (hk:h[k]?=some (some b)) (hk2:2<=k) (hb:b.own=true) (hbn:c*5<=b.n) (hbf:∀j,j<c*5->Eqv (b.f j) (mlc (T (j / 5)) (j%5)))
  (hv:∀ρ ρ',AgreeOn (Fil (qa5 (airP L) 0 [1] h 0)) ρ ρ'->den ρ' v=den ρ v) (kk:K v (qa5 (airP L) 0 [1] h 0)):N (q51 ss h v K):=
 qh8 0 [1] L k c T (q29 hss) (λl _ hl=>hpc l Q4P) hc hl hT h0 ha hn haf hk Q4P hb hbn hbf (λx hx=>by obtain rfl:=xQ.1 hx;omega) (safeM h1) hv kk
open Go Go.RowKit Sx
theorem CallAll.to{g:FuncId}{h:Hp}{R R':Value->Mz->Prop}(k:CallAll P g vs h R)(hR:∀v ms,R v ms->R' v ms):CallAll P g vs h R':=by
 intro X ρ w xs H hx;rcases k X ρ w xs H hx with ⟨v,w',hr,u,ms,ρ',hq,ha⟩|⟨hr,hcl⟩
 .exact .inl ⟨v,w',hr,_,_,ρ',hR _ _ hq,ha⟩
 .refine .inr ⟨hr,hcl.mono ?_⟩;rintro e w' ⟨y,he,u,ms,ρ',hq,ha⟩;exact⟨y,he,_,_,ρ',hR _ _ hq,ha⟩
theorem qps(T:Nat->Ml)(l:Nat)(x:Ml):q5p T l x l=x:=if_pos rfl
theorem qpt{l i:Nat}(h:i≠l):q5p T l x i=T i:=if_neg h
theorem qww{l i:Nat}(h:i<l):q6b T l x i=T i:=if_pos h
variable{u:Option Sl}{bs:List Int}
theorem Sx.Src.len{W:World}(h:Src W F u bs):bs.length=uN u:=by
 cases h with
 | nil=>rfl
 | own he=>rfl
 | old hn hc=>exact hn
theorem qtx{i:Nat}{c d c2 d2:Chunk}{W:World}:∀l,l<1->∃s,[(⟨i,c,airP L,d⟩:q3w),⟨j,c2,q3v W F,d2⟩][l]?=some s/\s.e.x≠Ext.none/\Selfish s.e.x:=λl hl=>by
 match l,hl with
 | 0,_=>exact⟨_,rfl,qny L,qao⟩
theorem qnz(hT:∀i m,L[i]?=some m->T i=m)(hx:T L.length=x):∀i m,(L++[x])[i]?=some m->T i=m:=λi m hm=>by
 by_cases h:i<L.length
 .rw[yR h] at hm;exact hT i m hm
 .rw[yF Q4P] at hm;have:i-L.length=0:=by
   have:=(xe.1 hm).1;simp at this;omega
  rw[this] at hm;have e:i=L.length:=by omega
  subst e;rw[hx];simpa using hm
theorem jb2(W:World)(F:List By)(L:List Ml)(to_ at_ tr:Int)(be:Bool)(u:Option Sl)(bs:List Int)(i j:Nat)(hij:i≠j)(h:Hp)(hi:h[i]?=some (some (airP L)))(hj:h[j]?=some (some (q3v W F)))(hs:Src W F u bs)(hb:bs.length<=1000)(hl:L.length<512):
  CallAll prog 167 [xd i,mailV to_ u at_ tr be] h (λv ms=>∃u' F',Made F bs u' F'/\v=.bool true/\ms=[(i,airP (L++[⟨to_,u',at_,tr,be⟩])),(j,q3v W F')]):=by
 refine CallAll.to (qaq (G:=tys) (h:=h) (vs:=[xd i,mailV to_ u at_ tr be]) (q5q L) (jb1 W F L) (α:=Option Sl×List By) (λκ=>Made F bs κ.1 κ.2) (λκ=>.bool true) [⟨i,airP L,airP L,airP L⟩,⟨j,q3v W F,q3v W F,q3v W F⟩] (λκ=>[airP (L++[⟨to_,κ.1,at_,tr,be⟩]),q3v W (κ.2)]) (λκ=>[]) [xd 0,mailV to_ u at_ tr be] tysOK mixed func167 Q4R (call167) ⟨hi,hj,xb⟩ ⟨Q3P,Q3P,xb⟩ (λκ _=>⟨Q3P,Q3P,xb⟩) (by simp[Apart,hij]) Q4B (λκ _=>trivial) ⟨.ptr rfl,qpr _ _ _ _ _,xb⟩ qqo ?_) ?_
 rotate_left
 .rintro v ms ⟨κ,hκ,rfl,rfl⟩;exact⟨κ.1,κ.2,hκ,rfl,rfl⟩
 intro β hβ
 have hlen:=hs.len
 cases β with
 | none=>
  obtain rfl:L=[]:=hβ;refine Q07 ?_;refine Bp [0,1,2,3,4,5,9,10] [(6,[7]),(8,[11])] Q4U ?_;refine Q07 ?_;refine N.callM [1] _ Q4U (λh₂ hh=>q9l W F _ bs hs Q4P to_ at_ tr be 1 h₂ Q4A) λv ms hR=>?_
  obtain⟨u',F',hM,rfl,rfl⟩:=hR;refine⟨by simp,?_⟩;repeat' (refine Ba ?_;first|refine Q2J ?_|refine Q2W ?_|refine Q35 ?_|refine Q3s ?_|refine Q3a ?_|fail)
  refine Ba ?_;refine Bb Q53 ?_;refine Ba ?_;refine App0N.mk1 (Ml.v (Ml.mk to_ (u') at_ tr be)) ⟨nlr _,_,rfl,rfl,λj hj=>by
   match j,hj with
   | 0,_=>rfl
   | 1,_=>rfl
   | 2,_=>rfl
   | 3,_=>rfl
   | 4,_=>rfl⟩ Q4T Q4T Q4T λc hc=>?_
  repeat' (refine Ba ?_;first|refine Q2J ?_|refine Q2W ?_|refine Q35 ?_|refine Q3s ?_|refine Q3a ?_|fail)
  refine Ba ?_;refine qkm ([]++[(Ml.mk to_ (u') at_ tr be)]) 9 c (q6b (λ_=>Ml.z) 0 (Ml.mk to_ (u') at_ tr be)) rfl qtx hc (by simpa using hc) (qnz (λi m hm=>by simp at hm) rfl) Q4R rfl (nlr _) rfl Q4R Q4R Q4T rfl (nlr _) (λj hj=>qmp rfl hc (λj hj=>absurd hj Q4P) hj) (λρ ρ' _=>rfl) ?_;refine Bh (u',F') ⟨hM,?_⟩;refine Bb (.plain rfl) ?_;refine Bb ⟨Q3R,Q3R,xb⟩ ?_;refine Bb xb ?_;refine Bb Q48 ?_;exact Bd
 | some q=>
  obtain⟨c,T⟩:=q;obtain⟨hc1,hlc,hT⟩:=hβ;refine Q07 ?_;refine Bp [0,1,2,3,4,5,9,10] [(6,[7]),(8,[11])] Q4U ?_;refine Q07 ?_;refine N.callM [1] _ Q4U (λh₂ hh=>q9l W F _ bs hs Q4P to_ at_ tr be 1 h₂ Q4A) λv ms hR=>?_
  obtain⟨u',F',hM,rfl,rfl⟩:=hR;refine⟨by simp,?_⟩;repeat' (refine Ba ?_;first|refine Q2J ?_|refine Q2W ?_|refine Q35 ?_|refine Q3s ?_|refine Q3a ?_|fail)
  refine Ba ?_;refine Bb Q53 ?_;refine Ba ?_;refine AppN.mk1 (Ml.v (Ml.mk to_ (u') at_ tr be)) ⟨nlr _,_,rfl,rfl,λj hj=>by
   match j,hj with
   | 0,_=>rfl
   | 1,_=>rfl
   | 2,_=>rfl
   | 3,_=>rfl
   | 4,_=>rfl⟩ Q4R (by show L.length*5<=c*5;omega) Q4P (by show(L.length+1)*56<=_;omega) (mlA true c (q5p T L.length (Ml.mk to_ (u') at_ tr be))) (λh=>q28 rfl Q4P rfl) (λhr=>?_) (λhg cap hcap=>?_)
  .refine Q07 ?_;refine qkm (L++[(Ml.mk to_ (u') at_ tr be)]) 2 c (q5p T L.length (Ml.mk to_ (u') at_ tr be)) rfl qtx hc1 (by rw[xP];exact hr) (qnz (λi m hm=>by have:=(xe.1 hm).1;rw[<-hT i m hm];exact qpt Q4P) (qps _ _ _)) Q4R rfl (nlr _) Q5G Q4R Q4R Q4T rfl (nlr _) (λj hj=>qmo (qaw hj)) (λρ ρ' _=>rfl) ?_;refine Bh (u',F') ⟨hM,?_⟩;refine Bb (.plain rfl) ?_;refine Bb ⟨Q3R,Q3R,xb⟩ ?_;refine Bb xb ?_;refine Bb Q48 ?_;exact Bd
  .refine Q07 ?_;refine qkm (L++[(Ml.mk to_ (u') at_ tr be)]) 9 cap (q6b T L.length (Ml.mk to_ (u') at_ tr be)) rfl qtx Q4P (by rw[xP];exact hcap) (qnz (λi m hm=>by have:=(xe.1 hm).1;rw[<-hT i m hm];exact qww Q4P) (by unfold q6b;rw[if_neg (Nat.lt_irrefl _),if_pos rfl])) Q4R rfl (nlr _) Q5G Q4R Q4R Q4T rfl (nlr _) (λj hj=>qmp rfl hcap (λj hj=>qaw Q4P) hj) (λρ ρ' _=>rfl) ?_;refine Bh (u',F') ⟨hM,?_⟩;refine Bb (.plain rfl) ?_;refine Bb ⟨Q3R,Q3R,xb⟩ ?_;refine Bb xb ?_;refine Bb Q48 ?_;exact Bd
theorem qty{s:q3w}:∀i,i<[s].length->i=0\/i∈([]:List Nat):=λi hi=>.inl Q59
theorem qyv{i:Nat}{c d:Chunk}:∀l,(l=0\/l=k)->l<[(⟨i,c,airP L,d⟩:q3w)].length->∃s,[(⟨i,c,airP L,d⟩:q3w)][l]?=some s/\s.e.x≠Ext.none/\Selfish s.e.x:=λl _ hl=>by
 obtain rfl:l=0:=by simpa using hl
 exact⟨_,rfl,qny L,qao⟩
theorem jb3(L:List Ml)(i:Nat)(h:Hp)(hi:h[i]?=some (some (airP L))):qae prog 68 [xd i] h (xc (L.length:Nat)) [(i,airP L)] []:=by
 refine qay (G:=tys) (q5q L) (q9m L) [⟨i,airP L,airP L,airP L⟩] [] [xd 0] tysOK mixed func68 Q4R (call68) ⟨hi,xb⟩ ⟨Q3P,xb⟩ Q55 Q40 xb ⟨.ptr rfl,xb⟩ qa3 ?_;intro β hβ;cases β with
 | none=>
  obtain rfl:L=[]:=hβ;refine Q0k ?_;refine qi5 0 [] qty (λ_=>⟨_,rfl,qny [],qao⟩) Q4R rfl (nlr _) rfl (λx hx=>by cases hx) (λx hx=>by cases hx) (λρ ρ' _=>rfl) ?_;exact Q1l
 | some q=>
  obtain⟨c,T⟩:=q;obtain⟨hc1,hlc,hT⟩:=hβ;refine Q0k ?_;refine qh8 0 [] L 1 c T qty qyv hc1 hlc hT Q4R rfl (nlr _) rfl Q4R Q4T rfl (nlr _) (λj hj=>qmo (qaw hj)) (λx hx=>by cases hx) (λx hx=>by cases hx) (λρ ρ' _=>rfl) ?_;exact Q1l
theorem jb4(K:Nat)(h:Hp)(hK:h[K]?=some none):qae prog 18 [] h (xd K) [(K,airP [])] []:=by
 refine qay (G:=tys) (λ_:Unit=>True) (λ_=>[]) [] [⟨K,0,airP []⟩] [] tysOK mixed func18 Q4R (call18) xb xb xb xb Q4t xb Opens.same ?_;rintro⟨⟩ -;refine Q0k ?_;refine qi5 0 [] (λi hi=>absurd hi Q50) (λhi=>absurd hi Q50) Q4R rfl (nlr _) rfl (λx hx=>by cases hx) (λx hx=>by cases hx) Q4M ?_;exact Q0E
open Go Go.RowKit Sx
abbrev flC(C:Nat->Int)(n:Nat)(iw ia io:Nat)(u:Value)(lost:Int):Chunk:=⟨true,16,[(0,16,.agg ⟨[xd iw,xd ia,xc (C 0),xc (C 1),xc (C 2),xc (C 3),xc (C 4),xc (C 5),xc (C 6),xc (C 7),xc (C 8),xc (C 9),xc (C 10),u,.slice (some ⟨io,0,some 0⟩) n n,xc lost]⟩)]⟩
abbrev onC(x:Ext)(n:Nat)(on:Nat->Bool):Chunk:=@Chunk.mk x true n [(0,n,.agg ⟨segL n λj=>.bool (on j)⟩)]
abbrev jaf(C:Nat->Int):Chunk:=⟨true,11,[(0,11,q7m C)]⟩
theorem jcr{p:Nat->Prop}(h0:p 0)(h1:p 1)(h2:p 2)(h3:p 3)(h4:p 4)(h5:p 5)(h6:p 6)(h7:p 7)(h8:p 8)(h9:p 9)(h10:p 10):∀j,j<11->p j:=λj hj=>by
 match j,hj with
 | 0,_=>exact h0
 | 1,_=>exact h1
 | 2,_=>exact h2
 | 3,_=>exact h3
 | 4,_=>exact h4
 | 5,_=>exact h5
 | 6,_=>exact h6
 | 7,_=>exact h7
 | 8,_=>exact h8
 | 9,_=>exact h9
 | 10,_=>exact h10
structure FS where
 C:Nat->Int
 n:Nat
 P:Nat->Int
 M:Nat->Bool
 tm:Int
 st:Int
 L:List Ml
 g:Nat->Nat×Nat
 s:Nat->NSt
 on:Nat->Bool
 lost:Int
abbrev flH(F:FS)(β:Nat×Nat):Hp:=[some (flC F.C F.n 1 6 4 (.slice (some ⟨5,0,some 0⟩) F.n β.2) F.lost),some (wcc true F.C F.n β.1 2 3 F.tm F.st),some (ptP true F.n F.P),some (mvP true F.n F.M),some (onC (q31 ndX F.n F.g F.s) F.n F.on),some (prC β.2 (prF F.g F.n)),some (airP F.L)]
def q5b(F:FS)(β:Nat×Nat):Prop:=F.n<=β.1/\F.n<=β.2
abbrev flP(F:FS):Chunk:=packC (q5b F) (flH F)
variable{on:Nat->Bool}
theorem qh9{x:Ext}(h:j<n):(onC x n on).f j=.bool (on j):=by
 refine Q1b ?_;exact qdf h
theorem q9n{x:Ext}{p:Nat}{b:Bool}(h:p<n):Writes (onC x n on) p 1 (.bool b) (onC x n (upd on p b)):=by
 refine⟨rfl,h,rfl,λj hj=>?_⟩;have hj:j<n:=hj;rw[qh9 hj,qh9 hj];by_cases e:j=p
 .subst e;rw[qfq,if_pos Q4P,Nat.sub_self];rfl
 .rw[qed _ _ e,if_neg Q4P]
abbrev onK(k j:Nat):Bool:=decide (j<k)
theorem qia(k:Nat):upd (onK k) k true=onK (k+1):=funext λj=>by
 by_cases e:j=k
 .subst e;rw[qfq];exact(xg (yH _)).symm
 .rw[qed _ _ e];by_cases h:j<k
  .exact(xg h).trans (xg (by omega:j<k+1)).symm
  .exact(xj h).trans (xj (by omega:¬ j<k+1)).symm
theorem qi6(k:Nat)(h:k<64):qbc 4194304 (q4s (k*2)) (q4s (k*2+1)):=by
 unfold qbc q4s;rw[if_pos Q4P,if_neg Q4P];omega
theorem qby{x:Ext}{a b:Nat->Bool}(h:∀j,j<n->a j=b j):ChunkReLe ix (onC x n a) (onC x n b):=by
 refine @ChunkReLe.mk _ _ _ ⟨.inr rfl⟩ id (nlr _) λj hj=>?_
 have hj:j<n:=hj;rw[qh9 hj,qh9 hj,h j hj];exact .plain rfl
variable{ps:Pz}
theorem qpu(C:Nat->Int)(hC:q7a C)(hcap:200<=C 10)(i b k:Nat)(hi:i<3)(g:Rz){o:Bool}{Y0:Ext}(hY:Y0=q31 ndX i g (q33 C))(h:Hp)(hb:h[b]?=some (some (@Chunk.mk Y0 o c ps)))(hk:h[k]?=some none):
  CallAll prog 21 [cfV C,xc (i:Int),xc 0,elV (q4s (i*2)) (q4s (i*2+1)) 100 0 100] h λv ms=>∃q:Nat×Nat,v=q3z q/\ms=[(b,@Chunk.mk (q31 ndX (i+1) (upd g i q) (q33 C)) o c ps)]:=by
 have e:q33 C i=q4i C (i:Int) 0 true (q4s (i*2)) (q4s (i*2+1)) 100 0 100:=if_pos hi
 have hp:=qi6 i Q4P
 have key:=qts b k i i (i+1) g (q33 C) (q33 C i) hY Q4P (λj h1 h2=>by omega) hb hk (by rw[e];exact q0k C hC (i:Int) 0 Q4P Q4T _ _ 100 0 100 ⟨hp,by decide,by decide,by decide,by decide⟩ Q4P k h hk)
 rw[qct] at key
 exact key
theorem qwx(C:Nat->Int)(hC:q7a C)(i b k:Nat)(hi:¬ i<3)(h64:i<64)(g:Rz){o:Bool}{Y0:Ext}(hY:Y0=q31 ndX i g (q33 C))(h:Hp)(hb:h[b]?=some (some (@Chunk.mk Y0 o c ps)))(hk:h[k]?=some none):
  CallAll prog 21 [cfV C,xc (i:Int),xc 0,elV 0 0 0 0 0] h λv ms=>∃q:Nat×Nat,v=q3z q/\ms=[(b,@Chunk.mk (q31 ndX (i+1) (upd g i q) (q33 C)) o c ps)]:=by
 have e:q33 C i=q4i C (i:Int) 0 false 0 0 0 0 0:=if_neg hi
 have key:=qts b k i i (i+1) g (q33 C) (q33 C i) hY Q4P (λj h1 h2=>by omega) hb hk (by rw[e];exact q0j C hC (i:Int) 0 Q4P Q4T k h hk)
 rw[qct] at key
 exact key
theorem q3a(C:Nat->Int)(hC:q7a C)(hm:q7b C)(n:Nat)(hn:C 0=(n:Int))(h8:n<=8)(hcap:200<=C 10)(K K2:Nat)(hKK:K≠K2)(h:Hp)(hK:h[K]?=some none)(hK2:h[K2]?=some none):
  CallAll prog 11 [q7m C] h λv ms=>∃g:Rz,v=.tuple #[xd K,xc 0]/\ms=[(K,flP ⟨C,n,q4s,λ_=>false,0,0,[],g,q33 C,λ_=>true,0⟩),(K2,jaf C)]:=by
 have hn0:1<=n/\n<=64:=by have:=hm.1;omega
 have key:=qaq (G:=tys) (h:=h) (vs:=[q7m C]) (λ_:Unit=>True) (λ_=>[]) (α:=Nat->Nat×Nat) (λκ=>True) (λκ=>.tuple #[xd K,.int .i64 0]) [] (λκ=>[]) (λκ=>[⟨K,9,flP ⟨C,n,q4s,λ_=>false,0,0,[],κ,q33 C,λ_=>true,0⟩⟩,⟨K2,0,jaf C⟩]) [q7m C] tysOK mixed func11 Q4R (call11) xb xb (λκ _=>trivial) xb xb (λκ _=>⟨⟨hK,rfl,.inr qao,by simp[hKK]⟩,⟨hK2,rfl,.inl (by show 0<11;decide),by simp⟩,xb⟩) ⟨.plain rfl,xb⟩ Opens.same ?_
 .exact Q2l
 rintro⟨⟩ -
 repeat' (refine Ba ?_;first|refine Q2J ?_|refine Q2R ?_|fail)
 refine Ba ?_
 refine Bg (jbo C 1 n _ hm hn Q4R Q4R Q4R) λv ms hR=>?_
 obtain⟨ps,hps,rfl,rfl⟩:=hR
 repeat' (refine Ba ?_;first|refine Q2J ?_|refine Bc (jb4 4 _ Q4R) ?_|refine MakeN.mk n n hn hn (by show 1*n<=_;omega) Q4P (xU n).symm ?_|fail)
 refine Ba ?_
 refine Bo (α:=Option (Nat×Nat×(Rz))) (λx=>match x with
  | none=>True
  | some s=>1<=s.1/\s.1<=n/\s.1<=s.2.1) (λx=>match x with
  | none=>n
  | some s=>n-s.1) (λx=>match x with
  | none=>[(24,.int .i64 0)]
  | some s=>[(24,.int .i64 (s.1:Int))]) (λx=>match x with
  | none=>[(8,onC Ext.none n (onK 0))]
  | some s=>[(8,onC (q31 ndX s.1 s.2.2 (q33 C)) n (onK s.1)),(9,flC C n 1 4 8 (.slice (some ⟨10,0,some 0⟩) s.1 s.2.1) 0),(10,prC s.2.1 (prF s.2.2 s.1))]) none [(0,0),(1,1),(2,2),(3,3),(4,4),(8,8),(9,9)] trivial ?_ ?_
 .exact Q02
 intro x hx
 cases x with
 | none=>
  obtain⟨z,hz⟩:∃z:Nat,z=0:=⟨0,rfl⟩;repeat' (refine Ba ?_;first|refine Q2J ?_|refine Q2T ?_|refine Bf Q5M ?_|refine Bc (qki C n ps.cap 1 2 3 q4s (λ_=>false) 0 0 true true true 0 _ Q4R Q4R Q4R Q4P) ?_|refine Bc (qtc _ _ 10 _ (qi6 0 Q4P) Q4T) ?_|fail)
  refine Q2D ?_;repeat' (refine Ba ?_;first|refine Q2J ?_|refine Bi z 1 (by rw[hz];rfl) Q4P ?_|fail)
  refine Ba ?_;refine qbp [8,5] _ Q53 (λh₂ hh=>qpu C hC hcap 0 8 5 Q4T (λ_=>(0,0)) (qiy ndX (λ_=>(0,0)) (q33 C)).symm h₂ Q4s Q4g) λv ms hR=>?_
  obtain⟨q,rfl,rfl⟩:=hR;refine⟨by simp,?_⟩;repeat' (refine Ba ?_;first|refine Q2J ?_|refine Q3g ?_|fail)
  refine Ba ?_;refine App0N.mk1 (.agg ⟨[q3z q]⟩) (qd8 rfl rfl) Q4T Q4T Q4T λcap hcap=>?_
  repeat' (refine Ba ?_;first|refine Q2J ?_|refine Q3a ?_|refine N.store _ (q9n Q4P) ?_|fail)
  refine Ba ?_;refine Bl (α:=Option (Nat×Nat×(Rz))) (some (0+1,cap,upd (λ_=>(0,0)) 0 q)) [(0,0),(1,1),(2,2),(3,3),(4,4),(8,8),(9,9),(21,10)] ⟨⟨by show 1<=_;omega,by show _<=n;omega,by show _<=_;omega⟩,by show n-1<n;omega⟩ ?_;have hon:onK (0+1)=upd (onK 0) 0 true:=(qia _).symm;have hon:onK (0+1)=upd (onK 0) z true:=by rw[hz];exact hon
  repeat' (refine Ba ?_;first|exact Bd|refine Q3x ?_|refine Q2U ?_|refine Q3b ?_|refine Q2V ?_|refine Bb (@ChunkReLe.mk _ _ _ ⟨.inr rfl⟩ id (nlr _) (nzj)) ?_|refine Q2Y ?_|refine Bb (qa4 (qax ek) rfl) ?_|fail)
 | some s=>
  obtain⟨k,cap,g⟩:=s;obtain⟨i1,i2,i3⟩:=hx;have i1:1<=k:=i1;have i2:k<=n:=i2;have i3:k<=cap:=i3;by_cases hk:k<n
  .have ek:((k+1:Nat):Int)=IntKind.i64.wrap ((k:Int)+1):=by rw[q36 _ Q4P Q4P];omega
   by_cases h3:k<3
   .refine Q0j ?_;refine qbp [8,5] _ Q53 (λh₂ hh=>qpu C hC hcap k 8 5 h3 g rfl h₂ Q4s Q4g) λv ms hR=>?_
    exact Q10
   .refine Q0j ?_;refine qbp [8,5] _ Q53 (λh₂ hh=>qwx C hC k 8 5 h3 Q4P g rfl h₂ Q4s Q4g) λv ms hR=>?_
    exact Q10
  .obtain rfl:k=n:=by omega
   refine Q0X ?_;refine qgo (ok:=q5b ⟨C,k,q4s,λ_=>false,0,0,[],g,q33 C,λ_=>true,0⟩) (hB:=flH ⟨C,k,q4s,λ_=>false,0,0,[],g,q33 C,λ_=>true,0⟩) (ps.cap,cap) 9 [(0,9),(1,1),(2,2),(3,3),(4,8),(5,10),(6,4)] [0] (λl i _ hl=>absurd hl (xS i)) (λi hi=>absurd hi (xS i)) ⟨by have:=hps.1.2.2.1;have:=hps.2;show k<=ps.cap;omega,i3⟩ rfl ⟨_,rfl⟩ rfl rfl ?_ (λk hk l i hm'=>?_) (λk hk d hd l hl=>?_) (λρ ρ' ha=>by have:=ha 9 ⟨_,rfl⟩;simp[den,den2,den1,den0,q4a,this]) (by first|(show 9<11;decide)|(show 9<12;decide)|(show 9<14;decide)|(show 9<15;decide)|(show 9<16;decide)|(show 9<17;decide)|simp) ?_
   .intro l d hl
    match l,hl with
    | 0,hl=>
     obtain rfl:_=d:=by simpa using hl
     exact⟨9,_,rfl,rfl,rfl,nlr _,Q4W,.inl rfl,.inl Q5U⟩
    | 1,hl=>
     obtain rfl:_=d:=by simpa using hl
     exact⟨1,_,rfl,rfl,rfl,nlr _,Q52,.inl rfl,.inl (by show 0<15;decide)⟩
    | 2,hl=>
     obtain rfl:_=d:=by simpa using hl
     exact⟨2,_,rfl,rfl,rfl,nlr _,(qbl (λ_ _=>rfl) λ_ _=>rfl).re,.inl rfl,.inl (by show 0<k*2;omega)⟩
    | 3,hl=>
     obtain rfl:_=d:=by simpa using hl
     exact⟨3,_,rfl,rfl,rfl,nlr _,(qbl (λ_ _=>rfl) λ_ _=>rfl).re,.inl rfl,.inl (by show 0<k;omega)⟩
    | 4,hl=>
     obtain rfl:_=d:=by simpa using hl
     exact⟨8,_,rfl,rfl,rfl,nlr _,(qby λj hj=>xg hj).re,.inr rfl,.inl (by show 0<k;omega)⟩
    | 5,hl=>
     obtain rfl:_=d:=by simpa using hl
     exact⟨10,_,rfl,rfl,rfl,nlr _,pr_ren.re,.inl rfl,.inl (by show 0<cap;omega)⟩
    | 6,hl=>
     obtain rfl:_=d:=by simpa using hl
     exact⟨4,_,rfl,rfl,rfl,nlr _,nzj,.inr rfl,.inr qao⟩
   .obtain rfl:=xQ.1 hk;exact Q1h
   .obtain rfl:=xQ.1 hk;obtain rfl:jaf C=d:=by simpa using hd
    generalize qa5 _ _ _ _ _=HH;exact jcr (p:=λj=>Safe1 HH (Chunk.f (jaf C) j)) xb xb xb xb xb xb xb xb xb xb xb l hl
   repeat' (refine Ba ?_;first|refine Q2J ?_|exact Bd|refine Bb xb ?_|refine Bh g ⟨xb,?_⟩|refine Bb (.tuple Q3Y) ?_|refine Bb ⟨Q4F,⟨xo _,_,rfl,λh=>h,nlr _,(by first|(refine jcr ?_ ?_ ?_ ?_ ?_ ?_ ?_ ?_ ?_ ?_ ?_<;>exact .plain rfl)|fail)⟩,xb⟩ ?_|refine Bb ⟨xb,.inr ⟨_,rfl,rfl⟩,.inl rfl,xb⟩ ?_|fail)
   done
theorem qtz{v:Value}(h:qar v=true){F:Nat->Prop}:∀ρ ρ',AgreeOn F ρ ρ'->den ρ' v=den ρ v:=λρ ρ' _=>by rw[qa7 h,qa7 h]
open Go Go.RowKit Sx
theorem Made.len{F':List By}(h:Made F bs u F'):bs.length=uN u:=by
 cases h with
 | nil h=>subst h;rfl
 | new hb=>rfl
theorem get_set{x:Nat}{y:Ml}(hT:∀i m,L[i]?=some m->T i=m){z:Ml}(hz:z=y):∀i m,(L.set x y)[i]?=some m->q5p T x z i=m:=λi m hm=>by
 subst hz;by_cases e:x=i
 .subst e;have hl:=(xe.1 hm).1;rw[List.length_set] at hl;rw[xr hl] at hm;rw[qps];simpa using hm
 .rw[xt e] at hm;rw[qpt (λh=>e h.symm)];exact hT i m hm
open Go Go.RowKit Sx
theorem qwy(L:List Ml)(to_ at_ tr:Int)(be:Bool)(u:Option Sl)(hl:512<=L.length)(i:Nat)(h:Hp)(hi:h[i]?=some (some (airP L))):qae prog 167 [xd i,mailV to_ u at_ tr be] h (.bool false) [(i,airP (L))] []:=by
 refine qay (G:=tys) (q5q L) (q9m L) [⟨i,airP L,airP L,airP (L)⟩] [] [xd 0,mailV to_ u at_ tr be] tysOK mixed func167 Q4R (call167) ⟨hi,xb⟩ ⟨Q3P,xb⟩ Q55 Q40 xb ⟨.ptr rfl,qpr _ _ _ _ _,xb⟩ qa3 ?_;intro β hβ;cases β with
 | none=>
  obtain rfl:L=[]:=hβ;exact absurd hl Q4T
 | some r=>
  obtain⟨c,T⟩:=r;obtain⟨hc1,hlc,hT⟩:=hβ;repeat' (refine Ba ?_;first|refine Q2J ?_|refine Q2W ?_|refine Q3t ?_|refine Q35 ?_|refine Q3s ?_|fail)
  refine Ba ?_;refine qh8 0 [] (L) 1 c (T) qty qyv hc1 hlc hT Q4R rfl (nlr _) rfl Q4R Q4T rfl (nlr _) (λj hj=>qmo (qaw hj)) (λx hx=>by cases hx) (λx hx=>by cases hx) (qtz rfl) ?_;exact Q1l
end Go.Proofs.YtggfpcfkbilkmaaGreatDoor
