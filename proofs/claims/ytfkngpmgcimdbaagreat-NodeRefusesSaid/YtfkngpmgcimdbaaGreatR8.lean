/-
  The walks of grow.Age, of track.
-/
import Derived.Test.YtfkngpmgcimdbaaGreatRows
import Derived.Laws.BytesArg
import Derived.Laws.OwnMore
import Derived.Laws.IdiomCopy
import Derived.Test.YtfkngpmgcimdbaaGreatR7
set_option linter.unusedVariables false
set_option linter.unusedSimpArgs false
set_option maxRecDepth 100000
set_option maxHeartbeats 20000000
open Go.IntKind
theorem Go.Proofs.zl:type_of% @List.mem_cons_self:=@List.mem_cons_self
open Go.Proofs.Tryz
namespace Go.Proofs
section
variable{Z Y:Prop}
theorem Q03(h:Z:=by
 refine qac (G:=tys) w tysOK mixed func59 Q8F Q8F Q8F ?_
 repeat' (refine Ba ?_;first|refine Q4Z ?_|refine Bb (qgw f _) ?_|refine Bb (qcs _ _) ?_|refine Bb (jl0 _ _ _) ?_|refine Br _ (qgx _ _ _ _ _ _ _ _ _ _ _ _) ?_|refine Bg (xf g_own) ?_|refine Bf (xe n_own) ?_|refine Bg (xf g_s) ?_|refine Bf (xe n_s) ?_|refine Bg (xf g_b) ?_|refine Bf (xe n_b) ?_|refine Bg (xf g_q) ?_|refine Bf (xe n_q) ?_|refine Bg (xf g_st) ?_|refine Bf (xe n_st) ?_|refine Bg (kY g_ds) ?_|refine Bf (kN n_ds) ?_|refine Bg (kY g_t1) ?_|refine Bf (kN n_t1) ?_|refine Bg (kY g_t2) ?_|refine Bf (kN n_t2) ?_|refine Bg (kY g_wh) ?_|refine Bf (kN n_wh) ?_|refine Bg (kY g_wn) ?_|refine Bf (kN n_wn) ?_|fail)
 all_goals rfl):Z:=h
theorem Q09(h:Z:=by
 refine qac (G:=tys) w tysOK mixed func91 Q8F Q8H Q8G ?_;repeat' (refine Ba ?_;first|refine Q4Z ?_|refine Q5d ?_|refine Q5m ?_|with_reducible refine Bi (λhb=>?_) (λhb=>?_)|refine Bb (qcs _ _) ?_|refine Bb (jl0 _ _ _) ?_|refine Q5L ?_|fail)
 all_goals
  refine jq2 ?_
  simp only[xh,xj,xz,false_iff,true_iff,iff_true,iff_false,reduceCtorEq,ya,xy,yb,xR,bne_iff_ne,ne_eq,bne_eq_false_iff_eq] at *
  try first|omega|exact⟨λhh=>⟨by assumption,by assumption,by assumption,hh⟩,λhh=>hh.2.2.2⟩):Z:=h
theorem Q0f(h:Z:=by
 refine qac (G:=tys) W tysOK mixed func141 Q8F Q8F Q8F ?_;repeat' (first|(refine Ba ?_;first|refine Q4Z ?_|refine Q5L ?_|refine Bf (ynT he) ?_|refine Bg (nyT he) ?_|refine Q5G ?_|refine Q5e ?_|refine Q5i ?_|fail)|refine qah Q8F ?_)
 all_goals rfl):Z:=h
theorem Q0o(h:Z:=by
 repeat' (refine Ba ?_;first|refine Q4Z ?_|with_reducible refine Bi (λhb=>?_) (λhb=>?_)|fail)
 all_goals
  refine jfn ?_
  simp only[xh,xj,xz,false_iff,true_iff,iff_true,iff_false,reduceCtorEq,ya,xy,yb,xR] at *
  omega):Z:=h
theorem Q0p(h:Z:=by
 repeat' (refine Ba ?_;first|refine Q4Z ?_|refine Bg ho ?_|refine Bf (eq_false_of_ne_true ho) ?_|refine Q5T ?_|fail)
 refine Ba ?_;refine N.next (α:=Nat) (m+1) ⟨hm8,by show 8-(m+1)<8-m;omega⟩ ?_;exact Q27):Z:=h
theorem Q0B(h:Z:=by exact Q27):Z:=h
theorem Q0D(k:Y)(h:Wr Y->Z:=by
 intro kQ;repeat' (refine Ba ?_;first|refine Q55 ?_|refine Q51 ?_|refine Bp 5 ?_|refine Q62 ?_|refine Q5r ?_|refine Q6X ?_|refine Q5d ?_|refine Q5m ?_|fail)
 exact kQ.o):Z:=h ⟨k⟩
theorem Q0P(h:Z:=by
 refine qac (G:=tys) W tysOK mixed func146 Q8F Q8F Q8F ?_;repeat' (first|(refine Ba ?_;first|refine Q4Z ?_|refine Q5G ?_|refine Q67 ?_|fail)|refine qah Q8F ?_)
 all_goals rfl):Z:=h
theorem Q0Q(h:Z:=by
 refine Ba ?_;exact Q3N):Z:=h
theorem Q0S(k:Y)(h:Wr Y->Z:=by
 intro kQ;refine Ba ?_;refine Bn ?_;refine Bc (.plain Q8F) ?_;refine Bc ⟨⟨_,rfl,id,nlr _,re7⟩,⟨_,rfl,id,nlr _,nzj⟩,xb⟩ ?_;refine Bc xb ?_;exact kQ.o):Z:=h ⟨k⟩
theorem Q0T(h:Z:=by exact Q3N):Z:=h
theorem Q0V(k:Y)(h:Wr Y->Z:=by
 intro kQ;repeat' (refine Ba ?_;first|refine Q4Z ?_|refine Q5T ?_|refine Q5U ?_|fail)
 refine Ba ?_;exact kQ.o):Z:=h ⟨k⟩
theorem Q1c(h:Z:=by
 refine⟨Evo.refl _ _,λi hi=>⟨⟨_,by
   have hi:i<1:=hi;obtain rfl:i=0:=by omega
   rfl⟩,rfl⟩,λk d hk=>hW,λk d hk j hj=>?_,λk d hk ho j hj=>?_,λk d l e hk ho hl hne=>?_,λi b=>i=0/\b<W.heap.size,λk d hk=>?_,λk d b hk hS=>?_,λk d b l e hk hS hl hne=>?_⟩
 .exact Q3j
 .exact Q3j
 .exact absurd ((one k d hk).1.trans (one l e hl).1.symm) hne
 .obtain⟨rfl,rfl⟩:=one k d hk;refine⟨yy,(λr hr=>by cases hr),λW' hW'=>?_⟩;rw[hz] at hW';obtain rfl:=Option.some.inj hW';exact⟨hW,nlr _,λb hb=>⟨⟨rfl,hb⟩,rfl⟩⟩
 .exact Q4x
 .exact absurd ((one l e hl).1.trans (one k d hk).1.symm) hne):Z:=h
theorem Q1H(h:Z:=by
 repeat' (refine Ba ?_;first|refine Q4Z ?_|refine Bg (by rw[hw,xh];omega) ?_|refine Bg (by rw[hb];rfl) ?_|refine Bf (by rw[hb];rfl) ?_|fail)
 refine Q0S ?_;exact Q4m):Z:=h
theorem Q1L(h:Z:=by
 repeat' (refine Ba ?_;first|refine Q4Z ?_|refine Bb (jlh T k e hd 2 _ Q8F) ?_|refine Bb (jjf D 1 2 _ (qj6 D 1 2) e.el e.when_ now 0 _ Q8F) ?_|refine Q5d ?_|refine Bf (by rw[hh];rfl) ?_|refine Bg (by rw[hh];rfl) ?_|fail)
 exact Q0Q):Z:=h
theorem Q1R(h:Z:=by repeat' (refine Ba ?_;first|refine Q4Z ?_|exact Be|refine Q5S ?_|refine Q6T ?_|refine Bc qdq ?_|refine Bc (.one .quo) ?_|refine Bc (.one (.any (λ_ _=>rfl) λ_ _=>rfl)) ?_|fail)):Z:=h
theorem Q1V(h:Z:=by exact Q4m):Z:=h
theorem Q27(h:Z:=by repeat' (refine Ba ?_;first|refine Q4Z ?_|exact Be|refine Bc (congrArg (Value.int .u32) es) ?_|refine Bc (congrArg (Value.int .i64) em) ?_|refine Bc (ChunkLe.refl _) ?_|fail)):Z:=h
theorem Q28(h:Z:=by
 generalize hx:jjg (IntKind.u32.wrap (k:Int)) m=x;have em:IntKind.i64.wrap ((m:Int)+1)=((m+1:Nat):Int):=by rw[jep _ Q8E Q8E];rfl
 by_cases ho:jp6 x=true
 .have es:jfp (jgy x 1) 3988292384=jjg (IntKind.u32.wrap (k:Int)) (m+1):=by rw[jjg,hx,jov,if_pos ho]
  exact Q0p
 .have es:jgy x 1=jjg (IntKind.u32.wrap (k:Int)) (m+1):=by rw[jjg,hx,jov,if_neg ho]
  exact Q0p):Z:=h
theorem Q2A(h:Z:=by
 refine Q0S ?_;refine Bc ⟨⟨.inl rfl,.inl rfl,.inl rfl,.inr ⟨_,rfl,rfl⟩,xb⟩,xb⟩ ?_;exact Be):Z:=h
theorem Q2G(h:Z:=by
 intro X ρ w2 xs H hx;rcases key X ρ w2 xs H hx with ⟨v,w',hr',u,ms,ρ',⟨κ,hκ,rfl,rfl⟩,ha⟩|⟨hr',hcl⟩
 .exact .inl ⟨v,w',hr',_,_,ρ',⟨κ,hκ,rfl,rfl⟩,ha⟩
 .refine .inr ⟨hr',hcl.mono ?_⟩;rintro e w' ⟨y,he,u,ms,ρ',⟨κ,hκ,rfl,rfl⟩,ha⟩;exact⟨y,he,_,_,ρ',⟨κ,hκ,rfl,rfl⟩,ha⟩):Z:=h
theorem Q2L(k:Y)(h:Wr Y->Z:=by
 intro kQ;repeat' (refine Ba ?_;first|refine Q4Z ?_|refine Bf hb ?_|refine Bg hb ?_|fail)
 refine Ba ?_;exact kQ.o):Z:=h ⟨k⟩
theorem Q2Z(h:Z:=by
 match k,h with
 | 0,_=>rfl
 | 1,_=>rfl
 | 2,_=>rfl
 | 3,_=>rfl
 | 4,_=>rfl
 | 5,_=>rfl
 | 6,_=>rfl
 | 7,_=>rfl
 | 8,_=>rfl
 | 9,_=>rfl
 | 10,_=>rfl
 | 11,_=>rfl
 | 12,_=>rfl
 | 13,_=>rfl
 | 14,_=>rfl
 | 15,_=>rfl
 | k+16,h=>exact absurd h Q8E):Z:=h
theorem Q3j(h:Z:=by obtain⟨rfl,rfl⟩:=one k d hk;exact absurd hj (xX j)):Z:=h
theorem Q3v(h:Z:=by
 obtain⟨b1,b2,b3⟩:=V.base W hW;exact⟨b1,xC b2 hB.size,λb hb=>⟨.inl (b3 b hb).1,(hB.block b (xl hb b2)).trans (b3 b hb).2⟩⟩):Z:=h
theorem Q3E(h:Z:=by
 cases k with
 | zero=>exact⟨rfl,by simpa using hk.symm⟩
 | succ k=>simp at hk):Z:=h
theorem Q3M(h:Z:=by
 simp[execOp,ho,resolve,invoke,builtin,hx',uR,uN,Builtin.len_,Sem.run_bind,Sem.run_pure,Result.andThen_ok,run_underlying he,Builtin.lenOf];rfl):Z:=h
theorem Q3N(h:Z:=by
 refine Bn ?_;refine Bc (.plain Q8F) ?_;refine Bc Q8c ?_;refine Bc xb ?_;exact Q1V):Z:=h
theorem Q44(h:Z:=by
 refine⟨v,?_,λr _=>?_⟩
 .exact Q2M
 .cases v<;>first|exact qbb (by exact hp) r|(simp[qbi] at hp)):Z:=h
theorem Q4d(k:Y)(h:Wr Y->Z:=by
 intro kQ;refine qac (G:=tys) W tysOK mixed func164 Q8F Q8F Q8F ?_;exact kQ.o):Z:=h ⟨k⟩
theorem Q4e(k:Y)(h:Wr Y->Z:=by
 intro kQ;refine qac (G:=tys) W tysOK mixed func163 Q8F Q8F Q8F ?_;exact kQ.o):Z:=h ⟨k⟩
theorem Q4m(h:Z:=by
 refine Bc ⟨⟨.inl rfl,.inl rfl,.inr ⟨_,rfl,rfl⟩,xb⟩,xb⟩ ?_;exact Be):Z:=h
theorem Q4n(h:Z:=by
 subst hq;obtain⟨e1,e2⟩:=qmy ⟨q1,q2⟩;unfold e64 at this;rw[e1,e2] at this;exact this):Z:=h
theorem Q4o(h:Z:=by
 subst e;refine qax (qcr hc) λv ms hR=>?_
 obtain⟨rfl,rfl⟩:=hR;exact⟨rfl,by rw[ho]⟩):Z:=h
theorem Q4x(h:Z:=by
 obtain⟨rfl,rfl⟩:=one k d hk;exact⟨.inl rfl,hS.2,.inr ⟨hS.2,λ_=>hS.2⟩⟩):Z:=h
theorem Q4G(h:Z:=by exact⟨xl (E.mine i _ b hi hb).2.1 hB.size,.inl rfl,.inl hb⟩):Z:=h
theorem Q4R(h:Z:=by unfold World.freeze;rw[if_neg Q8I]):Z:=h
theorem Q5t(k:Y)(h:Wr Y->Z:=by intro kQ;(first|refine Bf (by rw[hk];decide) ?_|refine Bg (ei hk) ?_|fail);exact kQ.o):Z:=h ⟨k⟩
theorem Q5G(k:Y)(h:Wr Y->Z:=by intro kQ;(first|refine Bb (qe1 _ _) ?_|refine Bf (ynT h1) ?_|refine Bf (ynT h2) ?_|refine Bf (ynT h3) ?_|refine Bg (nyT h1) ?_|refine Bg (nyT h2) ?_|refine Bg (nyT h3) ?_|fail);exact kQ.o):Z:=h ⟨k⟩
theorem Q5J(k:Y)(h:Wr Y->Z:=by intro kQ;(first|refine Bj m 1 hm hm64 ?_|refine Bl _ (qjc _ _ _ _ _ m hm64 rfl) ?_|fail);exact kQ.o):Z:=h ⟨k⟩
theorem Q5T(k:Y)(h:Wr Y->Z:=by intro kQ;(first|refine Bg (xf Q8E) ?_|fail);exact kQ.o):Z:=h ⟨k⟩
theorem Q5X(k:Y)(h:Wr Y->Z:=by intro kQ;(first|refine Bb (qgo _ _ _ _ _ _ _ _ _ _ _ _ _ _ _ ⟨hfr.1,hfr.2.1⟩ ⟨hfr.2.2.1,hfr.2.2.2⟩ _) ?_|fail);exact kQ.o):Z:=h ⟨k⟩
theorem Q6T(k:Y)(h:Wr Y->Z:=by intro kQ;(first|refine Bc (qa9 (qa1 ek) rfl) ?_|fail);exact kQ.o):Z:=h ⟨k⟩
theorem Q6X(k:Y)(h:Wr Y->Z:=by intro kQ;(first|with_reducible (first|refine Bb (qrg _ _ _ Q92) ?_|refine Bb (qlz _ _ _ Q92) ?_)|fail);exact kQ.o):Z:=h ⟨k⟩
theorem Q7e(h:Z:=by first|exact ⟨⟨λh=>⟨rfl,nlr _⟩,nlr _,qb2⟩,xb⟩|fail):Z:=h
theorem Q7g(h:Z:=by first|exact jo2 Q8F Q8F|fail):Z:=h
theorem Q7j(h:Z:=by first|exact ⟨⟨_,rfl,λh=>h,nlr _,qb2⟩,xb⟩|fail):Z:=h
theorem Q7v(h:Z:=by first|exact λh₂ hh=>q0r (D.se (upd D.S m ((D.S m).gotPoll at_ f.st))) (jji f) now fine n l Q8E hs hb 0 1 2 3 4 5 10 h₂ _ _ _ ((hh 0 Q8P).trans rfl) ((hh 1 Q8P).trans rfl) ((hh 2 Q8P).trans rfl) ((hh 3 Q8P).trans rfl) ((hh 4 Q8P).trans rfl) ((hh 5 Q8P).trans rfl) ((hh 10 Q8P).trans rfl) Q8I|fail):Z:=h
theorem Q7C(h:Z:=by first|exact (hh 0 Q8P).trans rfl|fail):Z:=h
theorem Q7T(h:Z:=by first|exact ⟨λh=>Q94,hc.n,qu1 hc Q8F Q8F⟩|fail):Z:=h
theorem Q7V(h:Z:=by first|exact (hh 2 Q8P).trans rfl|fail):Z:=h
theorem Q7X(h:Z:=by first|exact ⟨_,e1,id,nlr _,jid (D:=D.to R) (f:=i2) (t:=i3) (b:=i4) (m:=i5) (f':=2) (t':=3) (b':=4) (m':=5) Q8F Q8F Q8F Q8F⟩|fail):Z:=h
theorem Q83(h:Z:=by first|exact q0u D.g (upd D.S m ⟨⟨2,(D.S m).a.fr,at_,(D.S m).a.mr,(D.S m).a.sp⟩,(D.S m).b⟩) m hm64 fine he 1 9 Q8F Q8F|fail):Z:=h
theorem Q8e(h:Z:=by first|exact qlv [_] Q7d rfl Q8F (qss Q8F Q8F) rfl|fail):Z:=h
theorem Q8f(h:Z:=by first|exact ql0 D.g D.S m hm64 at_ f.t1 hg 1 8 Q8F Q8F|fail):Z:=h
theorem Q8h(h:Z:=by first|exact (hh 5 Q8P).trans rfl|fail):Z:=h
theorem Q8j(h:Z:=by first|exact qow D.g D.S m hm64 at_ f.st 1 8 Q8F Q8F|fail):Z:=h
theorem Q8o(h:Z:=by first|exact ⟨.inl rfl,.inr ⟨_,e1,rfl⟩,.inl rfl,.inr ⟨_,e3,rfl⟩,.inl rfl,.inl rfl,xb⟩|fail):Z:=h
theorem Q8q(h:Z:=by first|exact ⟨.inl rfl,.inr ⟨rfl,rfl⟩,.inl rfl,.inr ⟨rfl,rfl⟩,.inl rfl,.inl rfl,xb⟩|fail):Z:=h
theorem Q8u(h:Z:=by first|exact ⟨⟨hK,rfl,.inl (by show 0<κ*16;have:1<=κ:=hκ;omega),by simp⟩,xb⟩|fail):Z:=h
theorem Q8z(h:Z:=by first|exact qu2 D T _ _ k now 0 1 2 (qj6 D 1 2) _ Q8F Q8F Q8F Q8I|fail):Z:=h
theorem Q93(h:Z:=by simp only[zw,xh] at *;omega):Z:=h
theorem Q9o(h:Z:=by simp only[xw];omega):Z:=h
theorem Q9L(h:Z:=by rw[h2];decide):Z:=h
end
end Go.Proofs

namespace Go.Proofs.YtfkngpmgcimdbaaGreat
open Go Go.RowKit Sx
theorem nyT{p:Prop}[Decidable p](h:¬ p):(!decide p)=true:=by simp_all
theorem ynT{p:Prop}[Decidable p](h:p):(!decide p)=false:=by simp_all
theorem jqy{k:Int}(h:0<k):IntKind.i64.wrap ((4194304:Int).tdiv k)=4194304 / k:=by
 rw[Int.tdiv_eq_ediv_of_nonneg Q8I];have h1:4194304 / k<=4194304:=Int.ediv_le_self _ Q8I;have h2:0<=4194304 / k:=Int.ediv_nonneg Q8I Q8E
 grind[jep]
theorem q0d(e:El)(r r':Int)(h:Hp)(hr':r'=r)(he:e.may)(hr:0<=r/\r<=4194304):qae prog 188 [elE e,xc r'] h (.tuple #[elE (qfp e r).1,xc (qfp e r).2]) [] []:=by subst hr';exact qz4 e r' h he hr
theorem jc9(e:El)(s k:Int)(he:e.may)(hs:0<=s)(hk:0<=k)(W:World):xa 164 #[elE e,xc s,xc k] W (.tuple #[elE (jgx e s k).1,xc (jgx e s k).2]):=by
 unfold jgx;rw[if_pos ⟨he,hs,hk⟩];by_cases h0:0<k
 .have hq:=jqy h0;by_cases h1:4194304 / k<s
  .rw[if_pos ⟨h0,h1⟩];refine Q4d ?_;repeat' (first|(refine Ba ?_;first|refine Q4Z ?_|refine Q5L ?_|refine Bf (ynT he) ?_|refine Q5e ?_|refine Q5i ?_|refine Bc Q8E ?_|refine Bg (by rw[hq,xh];exact h1) ?_|fail)|refine qah Q8F ?_)
   all_goals rfl
  .rw[if_neg (λh=>h1 h.2)];have hp0:0<=s*k:=x9 hs hk;have hp:s*k<=4194304:=(Int.le_ediv_iff_mul_le h0).1 Q8E;have hw:IntKind.i64.wrap (s*k)=s*k:=jep _ Q8E Q8E;refine Q4d ?_;repeat' (first|(refine Ba ?_;first|refine Q4Z ?_|refine Q5L ?_|refine Bf (ynT he) ?_|refine Q5e ?_|refine Q5i ?_|refine Bc Q8E ?_|refine Bf (by rw[hq,xj];exact h1) ?_|refine Bb (q0d e (s*k) _ _ hw he ⟨hp0,hp⟩) ?_|fail)|refine qah Q8F ?_)
   all_goals rfl
 .obtain rfl:k=0:=by omega
  rw[if_neg (λh=>by omega)];have hw:IntKind.i64.wrap (s*0)=s*0:=by rw[Int.mul_zero];rfl
  refine Q4d ?_;repeat' (first|(refine Ba ?_;first|refine Q4Z ?_|refine Q5L ?_|refine Bf (ynT he) ?_|refine Q5e ?_|refine Bb (q0d e (s*0) _ _ hw he ⟨by omega,by omega⟩) ?_|fail)|refine qah Q8F ?_)
  all_goals rfl
theorem jor(e:El)(s k:Int)(h:Hp)(he:e.may)(hs:0<=s)(hk:0<=k):qae prog 164 [elE e,xc s,xc k] h (.tuple #[elE (jgx e s k).1,xc (jgx e s k).2]) [] []:=
 qai rfl rfl (call164 _) (jc9 e s k he hs hk)
theorem q3y(t:Int)(W:World):xa 163 #[xc t] W (.bool (decide (qbo t))):=by
 by_cases h0:0<=t
 .by_cases h1:t<=1000000
  .rw[xf (show qbo t from⟨h0,h1⟩)];refine Q4e ?_;repeat' (first|(refine Ba ?_;first|refine Q4Z ?_|refine Q5e ?_|refine Q5i ?_|fail)|refine qah Q8F ?_)
   .rw[xf h1]
  .rw[xe (show ¬ qbo t from λh=>h1 h.2)];refine Q4e ?_;repeat' (first|(refine Ba ?_;first|refine Q4Z ?_|refine Q5e ?_|refine Q5i ?_|fail)|refine qah Q8F ?_)
   .rw[xe h1]
 .rw[xe (show ¬ qbo t from λh=>h0 h.1)];refine Q4e ?_;repeat' (first|(refine Ba ?_;first|refine Q4Z ?_|refine Q5e ?_|refine Q5i ?_|fail)|refine qah Q8F ?_)
  all_goals rfl
theorem qe1(t:Int)(h:Hp):qae prog 163 [xc t] h (.bool (decide (qbo t))) [] []:=
 qai rfl rfl (call163 _) (q3y t)
theorem q82(w now k:Int)(W:World):xa 146 #[xc w,xc now,xc k] W (xc (qfq w now k)):=by
 unfold qfq;by_cases h1:qbo w
 .by_cases h2:qbo now
  .by_cases h3:qbo k
   .rw[if_pos ⟨h1,h2,h3⟩];have a1:=h1.1;have a2:=h1.2;have b1:=h2.1;have b2:=h2.2;have c1:=h3.1;have c2:=h3.2;have e1:IntKind.i64.wrap (now-w)=now-w:=jep _ Q8E Q8E;have e2:IntKind.i64.wrap (2*k)=2*k:=jep _ Q8E Q8E;refine qac (G:=tys) W tysOK mixed func146 Q8F Q8F Q8F ?_;repeat' (first|(refine Ba ?_;first|refine Q4Z ?_|refine Q5G ?_|refine Q67 ?_|fail)|refine qah Q8F ?_)
    .rw[e1,e2,jep (max 0 (now-w)+2*k) Q8E Q8E,jep _ Q8E Q8E]
   .rw[if_neg (λh=>h3 h.2.2)];exact Q0P
  .rw[if_neg (λh=>h2 h.2.1)];exact Q0P
 .rw[if_neg (λh=>h1 h.1)];exact Q0P
theorem q56(w now k:Int)(h:Hp):qae prog 146 [xc w,xc now,xc k] h (xc (qfq w now k)) [] []:=
 qai rfl rfl (call146 _) (q82 w now k)
theorem qrb(w now k:Int):0<=qfq w now k:=by
 unfold qfq;split
 .rename_i h;have:=h.2.2.1;omega
 omega
theorem q0e(e:El)(w now s k:Int)(W:World):xa 141 #[elE e,xc w,xc now,xc s,xc k] W (.tuple #[elE (qcu e w now s k).1,xc (qcu e w now s k).2]):=by
 unfold qcu;by_cases he:e.may
 .by_cases h1:qbo w
  .by_cases h2:qbo now
   .by_cases h3:qbo k
    .by_cases h4:0<=s
     .by_cases h5:s<=4194304
      .rw[if_pos ⟨he,h1,h2,h3,h4,h5⟩];refine qac (G:=tys) W tysOK mixed func141 Q8F Q8F Q8F ?_;repeat' (first|(refine Ba ?_;first|refine Q4Z ?_|refine Q5L ?_|refine Bf (ynT he) ?_|refine Bg (nyT he) ?_|refine Q5G ?_|refine Q5e ?_|refine Q5i ?_|refine Bb (q56 w now k _) ?_|refine Bb (jor e s (qfq w now k) _ he h4 (qrb _ _ _)) ?_|fail)|refine qah Q8F ?_)
       all_goals rfl
      .rw[if_neg (λh=>h5 h.2.2.2.2.2)];exact Q0f
     .rw[if_neg (λh=>h4 h.2.2.2.2.1)];exact Q0f
    .rw[if_neg (λh=>h3 h.2.2.2.1)];exact Q0f
   .rw[if_neg (λh=>h2 h.2.2.1)];exact Q0f
  .rw[if_neg (λh=>h1 h.2.1)];exact Q0f
 .rw[if_neg (λh=>he h.1)];exact Q0f
theorem q3z(e:El)(w now s k:Int)(h:Hp):qae prog 141 [elE e,xc w,xc now,xc s,xc k] h (.tuple #[elE (qcu e w now s k).1,xc (qcu e w now s k).2]) [] []:=
 qai rfl rfl (call141 _) (q0e e w now s k)
theorem q83(old fresh:El)(ho:old.may)(hf:fresh.may)(W:World):xa 118 #[elE old,elE fresh] W (.tuple #[elE (qi5 old fresh).1,xc (qi5 old fresh).2]):=by
 unfold qi5;rw[if_pos hf];by_cases h0:(jes old fresh).2=0
 .rw[if_pos h0];refine qac (G:=tys) W tysOK mixed func118 Q8F Q8F Q8F ?_;repeat' (first|(refine Ba ?_;first|refine Q4Z ?_|refine Q5L ?_|refine Bf (ynT hf) ?_|refine Bb (qi7 old fresh _ ho hf) ?_|refine Bg (by rw[h0];rfl) ?_|fail)|refine qah Q8F ?_)
  all_goals rfl
 .rw[if_neg h0];refine qac (G:=tys) W tysOK mixed func118 Q8F Q8F Q8F ?_;repeat' (first|(refine Ba ?_;first|refine Q4Z ?_|refine Q5L ?_|refine Bf (ynT hf) ?_|refine Bb (qi7 old fresh _ ho hf) ?_|refine Bf (by simpa using h0) ?_|fail)|refine qah Q8F ?_)
  all_goals rfl
theorem jda(old fresh:El)(h:Hp)(ho:old.may)(hf:fresh.may):qae prog 118 [elE old,elE fresh] h (.tuple #[elE (qi5 old fresh).1,xc (qi5 old fresh).2]) [] []:=
 qai rfl rfl (call118 _) (q83 old fresh ho hf)
variable{p:Nat->Prop}
theorem jos(h0:p 0)(h1:p 1)(h2:p 2)(h3:p 3)(h4:p 4)(h5:p 5)(h6:p 6)(h7:p 7)(h8:p 8)(h9:p 9)(h10:p 10):∀j,j<11->p j:=λj hj=>by
 match j,hj with
 | 0,_=>exact h0
 | 1,_=>exact h1
 | 2,_=>exact h2
 | 3,_=>exact h3
 | 4,_=>exact h4
 | 5,_=>exact h5
 | 6,_=>exact h6
 | 7,_=>exact h7
 | 8,_=>exact h8
 | 9,_=>exact h9
 | 10,_=>exact h10
 | k+11,h=>exact absurd h Q8E
theorem jjd(h0:p 0)(h1:p 1)(h2:p 2)(h3:p 3)(h4:p 4)(h5:p 5)(h6:p 6)(h7:p 7)(h8:p 8)(h9:p 9)(h10:p 10)(h11:p 11)(h12:p 12)(h13:p 13)(h14:p 14):∀j,j<15->p j:=λj hj=>by
 match j,hj with
 | 0,_=>exact h0
 | 1,_=>exact h1
 | 2,_=>exact h2
 | 3,_=>exact h3
 | 4,_=>exact h4
 | 5,_=>exact h5
 | 6,_=>exact h6
 | 7,_=>exact h7
 | 8,_=>exact h8
 | 9,_=>exact h9
 | 10,_=>exact h10
 | 11,_=>exact h11
 | 12,_=>exact h12
 | 13,_=>exact h13
 | 14,_=>exact h14
 | k+15,h=>exact absurd h Q8E
abbrev ndU(D:NdS):Chunk:=⟨false,11,[(0,11,.agg #[xc (D.C 0),xc (D.C 1),xc (D.C 2),xc (D.C 3),xc (D.C 4),xc (D.C 5),xc (D.C 6),xc (D.C 7),xc (D.C 8),xc (D.C 9),xc (D.C 10)])]⟩
abbrev ndV(D:NdS)(f t:Nat):Chunk:=⟨false,15,[(0,15,.agg #[xc (D.C 0),xc (D.C 1),xc (D.C 2),xc (D.C 3),xc (D.C 4),xc (D.C 5),xc (D.C 6),xc (D.C 7),xc (D.C 8),xc (D.C 9),xc (D.C 10),xc D.id,xc D.boot,xd f,xd t])]⟩
structure jje(c:Chunk)(D:NdS)(f t:Nat):Prop where
 n:15<=c.n
 f:∀j,j<15->c.f j=(ndV D f t).f j
theorem q0f(D:NdS)(f t b m:Nat):jje (ndC D f t b m) D f t:=⟨x7 rfl,jjd rfl rfl rfl rfl rfl rfl rfl rfl rfl rfl rfl rfl rfl rfl rfl⟩
theorem qj6(D:NdS)(f t:Nat):jje (ndV D f t) D f t:=⟨x7 rfl,jjd rfl rfl rfl rfl rfl rfl rfl rfl rfl rfl rfl rfl rfl rfl rfl⟩
variable{ix:List (Nat×Nat)}
theorem jdb{c:Chunk}{D:NdS}{f t:Nat}(h:jje c D f t):qbh ix c (ndU D):=λj hj=>by
 have hj:j<11:=hj;rw[h.f j Q8E];exact jos (p:=λj=>Re1 ix ((ndV D f t).f j) ((ndU D).f j)) (.plain rfl) (.plain rfl) (.plain rfl) (.plain rfl) (.plain rfl) (.plain rfl) (.plain rfl) (.plain rfl) (.plain rfl) (.plain rfl) (.plain rfl) j hj
theorem qu1{c:Chunk}{D:NdS}{f t f' t':Nat}(h:jje c D f t)(hf:ixK ix f'=some f)(ht:ixK ix t'=some t):qbh ix c (ndV D f' t'):=λj hj=>by
 have hj:j<15:=hj;rw[h.f j hj];exact jjd (p:=λj=>Re1 ix ((ndV D f t).f j) ((ndV D f' t').f j)) (.plain rfl) (.plain rfl) (.plain rfl) (.plain rfl) (.plain rfl) (.plain rfl) (.plain rfl) (.plain rfl) (.plain rfl) (.plain rfl) (.plain rfl) (.plain rfl) (.plain rfl) (.ptr hf) (.ptr ht) j hj
abbrev Ent.el(e:Ent):El:=⟨e.x,e.y,e.a,e.b,e.d⟩
def qdj(C:Nat->Int)(T:Tbl)(k now:Int):El×Bool:=
 match dGet T.E k with
 | some e=>if e.has=true then ((qcu e.el e.when_ now (C 2) (C 4)).1,decide ((qcu e.el e.when_ now (C 2) (C 4)).2=0)) else (El.o,false)
 | none=>(El.o,false)
def Tbl.keep(T:Tbl)(k:Int)(g:El)(now:Int):Tbl:=
 match dGet T.E k with
 | some e=>⟨T.most,dPut T.E k (e.put g.x g.y g.a g.b g.d now),T.lives⟩
 | none=>T
def jhy(C:Nat->Int)(T:Tbl)(k:Int)(e:El)(w now:Int):Tbl:=
 if (qcu e w now (C 2) (C 4)).2=0 then T.keep k (if (qdj C T k now).2=true then (qi5 (qdj C T k now).1 (qcu e w now (C 2) (C 4)).1).1 else (qcu e w now (C 2) (C 4)).1) now else T
theorem qrc{e:El}{w now s k:Int}(h:(qcu e w now s k).2=0):qbo now/\(qcu e w now s k).1.may:=by
 grind[qcu,q3l]
theorem qhh{C:Nat->Int}{T:Tbl}{k now:Int}(h:(qdj C T k now).2=true):(qdj C T k now).1.may:=by
 unfold qdj at h ⊢;split at h
 .rename_i e he;split at h
  .rename_i hh;rw[if_pos hh];exact(qrc (of_decide_eq_true h)).2
  simp_all
 simp_all
theorem qrd{old fresh:El}(ho:old.may)(hf:fresh.may):(qi5 old fresh).1.may:=by
 grind[qi5,qgu]
theorem jly(T:Tbl)(k:Int)(g:El)(now:Int)(hk : -9223372036854775808<=k/\k<=9223372036854775807)(hg:g.may)(ht:qbo now)(i:Nat)(h:Hp)(hi:h[i]?=some (some (tblC T))):
  qae prog 119 [xd i,xc k,elE g,xc now] h (xc (match dGet T.E k with|some _=>0|none=>7)) [(i,tblC (T.keep k g now))] []:=by
 unfold Tbl.keep
 cases hd:dGet T.E k with
 | none=>exact jny T k g.x g.y g.a g.b g.d now hk hd i h hi
 | some e=>exact jnz T k g.x g.y g.a g.b g.d now hk e hd hg ht i h hi
theorem jjf(D:NdS)(f t:Nat)(c:Chunk)(hc:jje c D f t)(e:El)(w now:Int)(i:Nat)(h:Hp)(hi:h[i]?=some (some c)):
  qae prog 116 [xd i,elE e,xc w,xc now] h (.tuple #[elE (qcu e w now (D.C 2) (D.C 4)).1,xc (qcu e w now (D.C 2) (D.C 4)).2]) [] [i]:=by
 refine qak (G:=tys) [⟨i,_,ndU D,⟨false,0,[]⟩⟩] [] [xd 0,elE e,xc w,xc now] tysOK mixed func116 Q8F (call116) ⟨hi,xb⟩ ⟨⟨λh=>Q94,by have:=hc.n;show 11<=c.n;omega,jdb hc⟩,xb⟩ Q8K xb Q7K ?_
 repeat' (refine Ba ?_;first|refine Q4Z ?_|refine Bb (q3z e w now _ _ _) ?_|refine Q5S ?_|refine Bc xb ?_|exact Be|fail)
theorem qu2(D:NdS)(T:Tbl)(c cf:Chunk)(k now:Int)(i1 i2 i3:Nat)(hc:jje c D i2 i3)(h:Hp)(h1:h[i1]?=some (some c))(h2:h[i2]?=some (some cf))(h3:h[i3]?=some (some (tblC T)))(hne:[i1,i2,i3].Nodup):
  qae prog 117 [xd i1,xc k,xc now] h (.tuple #[elE (qdj D.C T k now).1,.bool (qdj D.C T k now).2]) [(i3,tblC T)] [i1,i2]:=by
 refine qaq (G:=tys) (h:=h) (vs:=[xd i1,xc k,xc now]) (λ_:Unit=>True) (λ_=>_) [⟨i1,_,ndV D 1 2,noC⟩,⟨i2,_,noC,noC⟩,⟨i3,tblC T,tblC T,tblC T⟩] [] [xd 0,xc k,xc now] tysOK mixed func117 Q8F (call117) ⟨h1,h2,h3,xb⟩
  ⟨Q7T,Q7a,Q74,xb⟩ (by
   simp only[xH,xi,xD,not_or,xy,or_false,and_true] at hne;simp[Apart];omega) ⟨.inl rfl,.inl rfl,.inr ⟨rfl,rfl⟩,xb⟩ xb ⟨.ptr Q8F,.plain rfl,.plain rfl,xb⟩ Opens.same ?_
 rintro⟨⟩ -
 cases hd:dGet T.E k with
 | none=>
  rw[show qdj D.C T k now=(El.o,false) by unfold qdj;rw[hd]];repeat' (refine Ba ?_;first|refine Q4Z ?_|refine Bb (jli T k hd 2 _ Q8F) ?_|refine Q5m ?_|fail)
  exact Q0Q
 | some e=>
  rcases qd6 e.has with hh|hh
  .rw[show qdj D.C T k now=(El.o,false) by unfold qdj;rw[hd];show(if e.has=true then _ else _)=_;rw[hh];rfl];exact Q1L
  .rw[show qdj D.C T k now=((qcu e.el e.when_ now (D.C 2) (D.C 4)).1,decide ((qcu e.el e.when_ now (D.C 2) (D.C 4)).2=0)) by unfold qdj;rw[hd];show(if e.has=true then _ else _)=_;rw[hh];rfl];exact Q1L
theorem q57(D:NdS)(T:Tbl)(c cf:Chunk)(k:Int)(e:El)(w now:Int)(hk : -9223372036854775808<=k/\k<=9223372036854775807)(i1 i2 i3:Nat)(hc:jje c D i2 i3)(h:Hp)(h1:h[i1]?=some (some c))(h2:h[i2]?=some (some cf))(h3:h[i3]?=some (some (tblC T)))(hne:[i1,i2,i3].Nodup):
  qae prog 85 [xd i1,xc k,elE e,xc w,xc now] h (.tuple #[]) [(i3,tblC (jhy D.C T k e w now))] [i1,i2]:=by
 refine qaq (G:=tys) (h:=h) (vs:=[xd i1,xc k,elE e,xc w,xc now]) (λ_:Unit=>True) (λ_=>_) [⟨i1,_,ndV D 1 2,noC⟩,⟨i2,_,noC,noC⟩,⟨i3,tblC T,tblC T,tblC (jhy D.C T k e w now)⟩] [] [xd 0,xc k,elE e,xc w,xc now] tysOK mixed func85 Q8F (call85) ⟨h1,h2,h3,xb⟩
  ⟨Q7T,Q7a,Q74,xb⟩ (by
   simp only[xH,xi,xD,not_or,xy,or_false,and_true] at hne;simp[Apart];omega) ⟨.inl rfl,.inl rfl,.inr ⟨rfl,rfl⟩,xb⟩ xb ⟨.ptr Q8F,.plain rfl,.plain rfl,.plain rfl,.plain rfl,xb⟩ Opens.same ?_
 rintro⟨⟩ -
 repeat' (refine Ba ?_;first|refine Q4Z ?_|fail)
 refine Ba ?_
 refine Bb (jjf D 1 2 _ (qj6 D 1 2) e w now 0 _ Q8F) ?_
 by_cases hz:(qcu e w now (D.C 2) (D.C 4)).2=0
 rotate_left
 .rw[show jhy D.C T k e w now=T from if_neg hz];repeat' (refine Ba ?_;first|refine Q4Z ?_|refine Bg (nn hz) ?_|fail)
  exact Q0Q
 have hz2:=qrc hz
 rw[show jhy D.C T k e w now=T.keep k (if (qdj D.C T k now).2=true then (qi5 (qdj D.C T k now).1 (qcu e w now (D.C 2) (D.C 4)).1).1 else (qcu e w now (D.C 2) (D.C 4)).1) now from if_pos hz]
 repeat' (refine Ba ?_;first|refine Q4Z ?_|refine Bf (ni hz) ?_|fail)
 refine Ba ?_
 refine Bb Q8z ?_
 rcases qd6 (qdj D.C T k now).2 with hb|hb
 .rw[if_neg (by rw[hb];decide)];refine Q2L ?_;refine Bb (jly T k _ now hk hz2.2 hz2.1 2 _ Q8F) ?_;refine Q04 ?_;exact Q0T
 .rw[if_pos hb];refine Q2L ?_;refine Bb (jda _ _ _ (qhh hb) hz2.2) ?_;refine Q04 ?_;refine Bb (jly T k _ now hk (qrd (qhh hb) hz2.2) hz2.1 2 _ Q8F) ?_;refine Q04 ?_;exact Q0T
open Go.RowKit
end Go.Proofs.YtfkngpmgcimdbaaGreat


namespace Go.Proofs.YtfkngpmgcimdbaaGreat.Sx
open Go Go.RowKit
structure Sl where
 b:Nat
 o:Nat
 n:Nat
 c:Nat
 sp:Option Nat
def uR:Option Sl->Value
 | none=>.slice none 0 0
 | some s=>.slice (some ⟨s.b,s.o,s.sp⟩) s.n s.c
abbrev uV(u:Option Sl):Value:=.iface 99999999 (uR u)
theorem jot(u:Option Sl):∃a l c,uR u=.slice a l c:=by cases u with
 | none=>exact⟨_,_,_,rfl⟩
 | some s=>exact⟨_,_,_,rfl⟩
theorem qor(u:Option Sl)(ρ:Rz):den0 ρ (uV u)=uR u:=by
 obtain⟨a,l,c,e⟩:=jot u;rw[uV,e];rfl
theorem q84(u:Option Sl)(ρ:Rz):den1 ρ (uV u)=uR u:=qor u ρ
theorem qbs(u:Option Sl)(ρ:Rz):den ρ (uV u)=uR u:=qor u ρ
theorem jdc(u:Option Sl){ix:List (Nat×Nat)}:Re1 ix (uV u) (uV u):=.quo
def uN:Option Sl->Nat
 | none=>0
 | some s=>s.n
structure By where
 b:Nat
 c:Nat
 bs:List Int
abbrev By.s(e:By):Option Sl:=some ⟨e.b,0,e.bs.length,e.c,none⟩
def jqz(w:World)(u:Option Sl)(bs:List Int):Prop:=bs.length=uN u/\∀s,u=some s->(s.sp=none\/s.n=0)/\∀j,j<bs.length->w.cell? ⟨s.b,s.o+j,none⟩=some (.int .u8 (bs.getD j 0))
structure ByAt(w:World)(e:By):Prop where
 lt:e.b<w.heap.size
 cell:∀j,j<e.bs.length->w.cell? ⟨e.b,j,none⟩=some (.int .u8 (e.bs.getD j 0))
 own:∀j,j<e.bs.length->w.frozen? ⟨e.b,j,none⟩=false
variable{w:World}{b:Nat}
theorem qeo{w':World}{o:Nat}(h:w'.heap[b]?=w.heap[b]?):w'.cell? ⟨b,o,none⟩=w.cell? ⟨b,o,none⟩:=by
 simp only[World.cell?,h]
theorem qwk{w':World}{o:Nat}(h:w'.heap[b]?=w.heap[b]?):w'.frozen? ⟨b,o,none⟩=w.frozen? ⟨b,o,none⟩:=by
 simp only[World.frozen?,h]
theorem qos{w':World}(hl:b<w.heap.size)(h:w'.heap[b]?=w.heap[b]?):b<w'.heap.size:=by
 grind
theorem qgv{o:Nat}{v:Value}(h:w.cell? ⟨b,o,none⟩=some v):b<w.heap.size:=World.block_lt_of_cell? _ _ h
theorem ByAt.keep{w':World}{e:By}(h:ByAt w e)(hb:w'.heap[e.b]?=w.heap[e.b]?):ByAt w' e:=
 ⟨qos h.lt hb,λj hj=>(qeo hb).trans (h.cell j hj),λj hj=>(qwk hb).trans (h.own j hj)⟩
structure MemOK(W:World)(F:List By)(p:Nat×Nat)(S:Nat->Prop)(w:World):Prop where
 at_:0<W.heap.size->p.1<W.heap.size
 dom:∀b,S b↔b<W.heap.size\/∃e∈F,e.b=b
 size:W.heap.size<=w.heap.size
 old:∀b,b<W.heap.size->w.heap[b]?=W.heap[b]?
 nodup:(F.map By.b).Nodup
 cell:∀e∈F,W.heap.size<=e.b/\ByAt w e
abbrev jq0(W:World)(F:List By):Ext where
 inv:=λp S w=>MemOK W F p S w
 keep:=λ{p S w w'} h hb=>⟨h.at_,h.dom,by
   rcases xS W.heap.size with h0|h0
   .omega
   have h1:=h.at_ h0;have h2:=hb (W.heap.size-1) ((h.dom _).2 (.inl Q8E));have h3:=qos (b:=W.heap.size-1) (w:=w) (by have:=h.size;omega) h2;omega,λb hl=>(hb b ((h.dom b).2 (.inl hl))).trans (h.old b hl),h.nodup,λe he=>⟨(h.cell e he).1,(h.cell e he).2.keep (hb _ ((h.dom _).2 (.inr ⟨e,he,rfl⟩)))⟩⟩
abbrev jew(W:World)(F:List By):Chunk:=@Chunk.mk (jq0 W F) true 0 []
inductive Src(W:World)(F:List By):Option Sl->List Int->Prop
 | nil:Src W F none []
 | own {e:By} (he:e∈F):Src W F e.s e.bs
 | old {s:Sl} {bs:List Int} (hn:bs.length=s.n) (hs:s.sp=none\/s.n=0) (hc:∀j,j<bs.length->W.cell? ⟨s.b,s.o+j,none⟩=some (.int .u8 (bs.getD j 0))):Src W F (some s) bs
variable{W:World}{u:Option Sl}{bs:List Int}
theorem MemOK.src{F:List By}{p:Nat×Nat}{S:Nat->Prop}(M:MemOK W F p S w)(h:Src W F u bs):jqz w u bs:=by
 cases h with
 | nil=>exact⟨rfl,λs hs=>by cases hs⟩
 | own he=>
  refine⟨rfl,λs hs=>⟨?_,λj hj=>?_⟩⟩
  .grind
  cases hs
  show w.cell? ⟨_,0+j,none⟩=_;rw[xr];exact(M.cell _ he).2.cell j hj
 | old hn hsp hc=>
  refine⟨hn,λs hs=>⟨?_,λj hj=>?_⟩⟩
  .simp_all
  cases hs
  have h1:=hc j hj;rw[<-h1];exact qeo (M.old _ (qgv h1))
theorem Src.more{F F':List By}(hF:∀e∈F,e∈F')(h:Src W F u bs):Src W F' u bs:=by
 cases h with
 | nil=>exact .nil
 | own he=>exact .own (hF _ he)
 | old hn hsp hc=>exact .old hn hsp hc
inductive Made(F:List By)(bs:List Int):Option Sl->List By->Prop
 | nil:bs=[]->Made F bs none F
 | new {b c:Nat} (hb:b∉F.map By.b):Made F bs (By.mk b c bs).s (⟨b,c,bs⟩::F)
theorem Made.src{F F':List By}(h:Made F bs u F'):Src W F' u bs:=by
 cases h with
 | nil h=>subst h;exact .nil
 | new hb=>exact .own (zl ..)
theorem Made.sub{F F':List By}(h:Made F bs u F'):∀e∈F,e∈F':=by
 cases h with
 | nil h=>exact λe he=>he
 | new hb=>exact λe he=>yI _ he
section
variable{X:Ctx}{ρ:Rz}{h:Hp}{w w':World}
theorem q30{i:Nat}{W:World}{F:List By}{e:By}(H:HOK X ρ h w)(hi:h[i]?=some (some (jew W F)))(hB:Below w.heap.size w w')(he:ByAt w' e)(hge:w.heap.size<=e.b):e.b∉F.map By.b/\HOK X ρ (h.set i (some (jew W (e::F)))) w':=by
 obtain⟨S,E⟩:=H.ext;have M:MemOK W F (ρ i) (S i) w:=E.inv i _ hi;have hno:e.b∉F.map By.b:=λhm=>by
  obtain⟨x,hx,hxb⟩:=xE.1 hm;have:=(M.cell x hx).2.lt;omega
 refine⟨hno,H.turnX E hi (d:=jew W (e::F)) (S':=λb=>S i b\/b=e.b) id (nlr _) (nzj) hB.os hB.tape hB.output hB.size (λb hb _=>hB.block b hb) (λb hb=>?_) ?_⟩
 .rcases hb with hb|rfl
  .exact Q4G
  .exact⟨he.lt,.inl rfl,.inr hge⟩
 .refine⟨M.at_,λb=>⟨λhb=>?_,λhb=>?_⟩,xC M.size hB.size,λb hb=>(hB.block b (xl hb M.size)).trans (M.old b hb),?_,λx hx=>?_⟩
  .rcases hb with hb|rfl
   .rcases(M.dom b).1 hb with hb|⟨x,hx,hxb⟩
    .exact .inl hb
    grind
   simp
  .rcases hb with hb|⟨x,hx,rfl⟩
   .exact .inl ((M.dom b).2 (.inl hb))
   .rcases xi.1 hx with rfl|hx
    .omega
    .exact .inl ((M.dom _).2 (.inr ⟨x,hx,rfl⟩))
  .rw[xq,xH];exact⟨hno,M.nodup⟩
  .rcases xi.1 hx with rfl|hx
   .exact⟨xC M.size hge,he⟩
   .exact⟨(M.cell x hx).1,(M.cell x hx).2.keep (hB.block _ (M.cell x hx).2.lt)⟩
end
section
variable{X:Ctx}{ρ:Rz}{h:Hp}{w:World}
end
section
variable{P:Program}{G:Tys}{o:Oper}{st:St}
theorem qot{X:Ctx}{ρ:Rz}{st:St}{a:Act}{w:World}{x:Operand}{v:Value}(h:EvTo x st v)(hp:qap v=true)(R:Rel X ρ st a w):a.eval x=v:=by
 rw[<-(h.den R).self,qbb hp]
theorem Bm{slot:Nat}{K:Value->Mz->List Nat->Prop}{v:Value}{ms:Mz}{rh:List Nat}(h:OKs P o st v ms rh)(k:K v ms rh):N (OpN P o st slot K):=N.mk ⟨v,ms,rh,h,k⟩
theorem qc6{t:TypeId}{x y:Operand}{b f l c sz g:Nat}{a:Int}{k:IntKind}{v:Value}(hG:jey P G)(ho:o.op=.indexAddr t x y)(hx:EvTo x st v)(hxv:∀ρ,den ρ v=.slice (some ⟨b,f,none⟩) l c)(hy:EvTo y st (.int k a))
  (ht:jeq G t λ_ d=>match d with|.slice e=>jeq G e λei _=>ei.size=sz|_=>False) (h0:0<=a) (hn:a<l) (hg:f+a.toNat*sz=g):OKs P o st (.pointer (some ⟨b,g,none⟩)) [] []:=λst₂ hs _ _=>
 qay λX ρ act w R=>by
  subst hg;have hx':act.eval x=.slice (some ⟨b,f,none⟩) l c:=by rw[<-((hs x Q8L _ hx).den R).self,hxv]
  have hy':=qot (hs y Q8L _ hy) rfl R;obtain⟨i,d,_,h1,hd⟩:=qao hG ht;split at hd
  .obtain⟨ei,ed,h2,_,rfl⟩:=qao hG hd;refine⟨_,?_,Den.plain rfl⟩;exact Q3n
  .exact hd.elim
def jou(W:World)(F:List By)(b f:Nat)(v:Value):Prop:=∀p S w,MemOK W F p S w->w.cell? ⟨b,f,none⟩=some v
theorem q0g{W:World}{F:List By}{b f:Nat}{v:Value}(h:W.cell? ⟨b,f,none⟩=some v):jou W F b f v:=λp S w M=>by
 rw[<-h];exact qeo (M.old _ (qgv h))
theorem qca{x:Operand}{ts:Array TypeId}{u:Option Sl}(ho:o.op=.call ⟨.builtin .len,⟨[x]⟩,ts⟩)(hx:EvTo x st (uV u))(ht:∃t,ts = #[t]/\∃e,P.underlying t=some (.slice e)):OKs P o st (xc (uN u:Nat)) [] []:=λst₂ hs2 hh _=>
 qay λX ρ a w R=>by
  have hx':a.eval x=uR u:=by rw[<-((hs2 x Q8T _ hx).den R).self,qbs]
  obtain⟨t,rfl,e,he⟩:=ht;refine⟨xc (uN u:Nat),?_,Den.plain rfl⟩;cases u with
  | none=>
   exact Q3M
  | some s=>
   exact Q3M
end
structure Rw where
 w:Bool
 e:TypeId
 k:Nat
 b:Nat
 o:Nat
 c:Nat
 n:Nat
 xs:List Value
abbrev Rw.sl(r:Rw):Sl:=⟨r.b,r.o,r.n,r.c,none⟩
structure RwAt(w:World)(r:Rw):Prop where
 lt:r.b<w.heap.size
 len:r.xs.length=r.n*r.k
 cap:r.n<=r.c
 cell:∀j,j<r.xs.length->w.cell? ⟨r.b,r.o+j,none⟩=r.xs[j]?
 own:r.w=true->r.o=0/\∃cur z,w.heap[r.b]?=some (.cells cur r.e z)/\(z.1=z.2\/cur.size<=z.1)/\cur.size=r.c*r.k
theorem RwAt.keep{w':World}{r:Rw}(h:RwAt w r)(hb:w'.heap[r.b]?=w.heap[r.b]?):RwAt w' r:=
 ⟨qos h.lt hb,h.len,h.cap,λj hj=>(qeo hb).trans (h.cell j hj),λhw=>⟨(h.own hw).1,by rw[hb];exact(h.own hw).2⟩⟩
variable{e:TypeId}{xs:List Value}{z:Nat×Nat}
theorem RwAt.row{k n c:Nat}{cur:Array Value}(hh:w.heap[b]?=some (.cells cur e z))(hz:z.1=z.2\/cur.size<=z.1)(hs:cur.size=c*k)(hx:cur.toList.take (n*k)=xs)(hl:xs.length=n*k)(hn:n<=c):RwAt w ⟨true,e,k,b,0,c,n,xs⟩:=by
 have hc:∀j,w.cell? ⟨b,j,none⟩=cur[j]?:=λj=>by simp[World.cell?,hh]
 refine⟨(xY.1 hh).1,hl,hn,λj hj=>?_,λ_=>⟨rfl,cur,z,hh,hz,hs⟩⟩
 grind
theorem qu3{cur:Array Value}(hh:w.heap[b]?=some (.cells cur e z))(hz:z.1=z.2\/cur.size<=z.1)(j:Nat)(hj:j<cur.size):(w.cell? ⟨b,j,none⟩).isSome=true/\w.frozen? ⟨b,j,none⟩=false:=by
 refine⟨by simp[World.cell?,hh,hj],?_⟩;simp only[World.frozen?,hh,Bool.and_eq_false_iff,xj];omega
theorem qj7(b:Nat):∀(vs:List Value)(o:Nat)(w:World)(cur:Array Value)(e:TypeId)(z:Nat×Nat),w.heap[b]?=some (.cells cur e z)->∃cur',(w.setCells b o vs).heap[b]?=some (.cells cur' e z)/\cur'.size=cur.size
 | [],_,_,cur,_,_,h=>⟨cur,h,rfl⟩
 | v::r,o,w,cur,e,z,h=>by
  have h1:(w.setCell ⟨b,o,none⟩ v).heap[b]?=some (.cells (cur.setIfInBounds o v) e z):=by
   have:=setCell_eq_setRow w b o cur e z v h;rw[this];exact setRow_heap w b cur _ e z h
  obtain⟨cur',h2,h3⟩:=qj7 b r (o+1) _ _ e z h1;exact⟨cur',h2,by rw[h3,Array.size_setIfInBounds]⟩
theorem RwAt.of{k n c:Nat}(h:w.ownsRow 0 e k (.slice (some ⟨b,0,none⟩) n c) n xs):RwAt w ⟨true,e,k,b,0,c,n,xs⟩:=by
 rcases h.2 with ⟨h1,_⟩|⟨g,cap,cur,h1,h2,h3,h4,h5,h6,h7⟩
 .cases h1
 .have e1:b=g/\c=cap:=by injection h1 with h1 h8 h9;injection h1 with h1;injection h1 with h1;exact⟨h1,h9⟩
  obtain⟨rfl,rfl⟩:=e1;exact .row h3 (.inl rfl) h6 h7 h.1 h4
theorem qi8(b:Nat):∀(vs:List Value)(o:Nat)(w:World),(w.setCells b o vs).os=w.os/\(w.setCells b o vs).tape=w.tape/\(w.setCells b o vs).output=w.output/\(w.setCells b o vs).heap.size=w.heap.size/\∀k,k≠b->(w.setCells b o vs).heap[k]?=w.heap[k]?
 | [],_,_=>⟨rfl,rfl,rfl,rfl,λ_ _=>rfl⟩
 | v::r,o,w=>by
  obtain⟨h1,h2,h3,h4,h5⟩:=qi8 b r (o+1) (w.setCell ⟨b,o,none⟩ v);refine⟨h1,h2,h3,h4.trans (World.size_setCell ..),λk hk=>(h5 k hk).trans (heap_setCell_other w ⟨b,o,none⟩ k v hk)⟩
class ZW where
 z:Option World
structure RvOK[ZW](R:List Rw)(p:Nat×Nat)(S:Nat->Prop)(w:World):Prop where
 nodup:(R.map Rw.b).Nodup
 at_:∀r∈R,S r.b/\RwAt w r/\∀W,ZW.z=some W->W.heap.size<=r.b
 base:∀W,ZW.z=some W->p.1<W.heap.size/\W.heap.size<=w.heap.size/\∀b,b<W.heap.size->S b/\w.heap[b]?=W.heap[b]?
abbrev rvX[ZW](R:List Rw):Ext where
 inv:=λp S w=>RvOK R p S w
 keep:=λ{p S w w'} h hb=>⟨h.nodup,λr hr=>⟨(h.at_ r hr).1,(h.at_ r hr).2.1.keep (hb _ (h.at_ r hr).1),(h.at_ r hr).2.2⟩,λW hW=>by
  obtain⟨h1,h2,h3⟩:=h.base W hW;refine⟨h1,?_,λb hb'=>⟨(h3 b hb').1,(hb b (h3 b hb').1).trans (h3 b hb').2⟩⟩;have h4:=qos (b:=W.heap.size-1) (w:=w) (w':=w') Q8E (hb _ (h3 (W.heap.size-1) Q8E).1);omega⟩
abbrev rvC[ZW](R:List Rw):Chunk:=@Chunk.mk (rvX R) true 0 []
def rowO:Option Rw->Option Sl
 | none=>none
 | some r=>some r.sl
def rowL:Option Rw->List Rw->List Rw
 | none,R=>R
 | some r,R=>r::R
def rowN:Option Rw->Nat
 | none=>0
 | some r=>r.n
def jil:Option Rw->List Value
 | none=>[]
 | some r=>r.xs
theorem qu4(o:Option Rw)(R:List Rw):∀r∈R,r∈rowL o R:=λr hr=>by
 cases o with
 | none=>exact hr
 | some q=>exact yI _ hr
theorem qh6(r:Rw)(R:List Rw):r∈rowL (some r) R:=zl ..
structure Grew(o o':Option Rw)(e:TypeId)(k m:Nat)(news:List Value):Prop where
 n:rowN o'=rowN o+m
 xs:jil o'=jil o++news
 ty:∀r,o'=some r->r.e=e/\r.k=k/\r.w=true
 nil:o'=none↔o=none/\m=0
 cap:∀r,o'=some r->r.n<=r.c
def SrcR(w:World)(v:Value)(m k:Nat)(news:List Value):Prop:=
 (v=.slice none 0 0/\m=0/\news=[])\/∃a c,v=.slice (some a) m c/\news.length=m*k/\∀j u,news[j]?=some u->w.cell? (a.add j)=some u
theorem q85{size n m cap:Nat}{z:Value}{olds news:List Value}(ho:olds.length=n*size)(hn:news.length=m*size)(hz:z.cells.size=size)(hge:n+m<=cap)(hcm:cap<=maxLen):
  (w.drew.alloc (.cells (olds.toArray++news.toArray++Builtin.zeroCells z.cells (cap-(n+m))) e)).ownsRow 0 e size (.slice (some ⟨w.heap.size,0,none⟩) (n+m) cap) (n+m) (olds++news):=by
 have hlen:(olds++news).length=(n+m)*size:=by rw[yr,ho,hn,xO]
 refine⟨hlen,.inr ⟨w.heap.size,_,_,rfl,xn _,heap_alloc_new w.drew _,hge,hcm,?_,?_⟩⟩
 .simp only[Array.size_append,List.size_toArray,size_zeroCells,hz,ho,hn,<-xO];congr 1;omega
 .grind
section
variable{P:Program}{G:Tys}{o:Oper}{st:St}
variable{n:Nat}{ps:Pz}{K:Value->Mz->Prop}
theorem q31[ZW]{x y:Operand}{t e:TypeId}{ei:TypeInfo}{z p:Value}{i:Nat}{own:Bool}(oe:Option Rw)(R:List Rw)(m:Nat)(news:List Value)
  (ho:o.op=.call ⟨.builtin .append,#[x,y],#[t,t]⟩) (hx:EvTo x st p) (hp:∀ρ,den ρ p=uR (rowO oe))
  (h1:P.underlying t=some (.slice e)) (h2:P.info? e=some ei) (hz:ei.zero=some z) (hzs:z.cells.size=ei.size) (hs0:0<ei.size)
  (hi:st.h[i]?=some (some (@Chunk.mk (rvX (rowL oe R)) own n ps))) (hoe:∀r,oe=some r->r.e=e/\r.k=ei.size/\r.w=true)
  (hsrc:∀X ρ a w,Rel X ρ st a w->SrcR w (a.eval y) m ei.size news) (hone:∀u∈news,u.oneCell'=true)
  (h63:rowN oe+m<=35184372088831) (hb:(rowN oe+m)*ei.bytes<=140737488355328)
  (hK:∀oe',Grew oe oe' e ei.size m news->K (uV (rowO oe')) [(i,@Chunk.mk (rvX (rowL oe' R)) own n ps)]):EffAll P o st K:=λX ρ a w Rl next Q hn=>by
 have hx':a.eval x=uR (rowO oe):=by rw[<-(hx.den Rl).self,hp]
 obtain⟨S,E⟩:=Rl.heap.ext
 have V:RvOK (rowL oe R) (ρ i) (S i) w:=E.inv i _ hi
 have hpi:=Rl.heap.lt i _ hi
 have fin:∀oe' w',(Builtin.append_ #[t,t] o.type #[a.eval x,a.eval y]).run P w=.ok (uR (rowO oe')) w'->HOK X ρ (st.h.set i (some (@Chunk.mk (rvX (rowL oe' R)) own n ps))) w'->Grew oe oe' e ei.size m news->o.wp P a w next Q:=λoe' w' hr H' hg=>by
  have hrun2:=qc3 (P:=P) (o:=o) (x:=x) (y:=y) (t:=t) (a:=a) ho hr;unfold Oper.wp;rw[hrun2];exact hn _ _ ρ _ _ (hK oe' hg) ⟨AgreeOn.refl _ _,H',λr _=>qbs _ r⟩
 have hcm:∀q old,q<=35184372088831->grownCap w q old e<=maxLen:=λq old hq=>grownCap_le_maxLen w q old e (by simp only[maxLen];omega)
 have turn:∀oe' w',RvOK (rowL oe' R) (ρ i) (λb=>S i b\/∃r',oe'=some r'/\b=r'.b) w'->w'.os=w.os->w'.tape=w.tape->w'.output=w.output->w.heap.size<=w'.heap.size->(∀b,b<w.heap.size->¬ S i b->w'.heap[b]?=w.heap[b]?)->(∀r',oe'=some r'->S i r'.b\/w.heap.size<=r'.b)->
   HOK X ρ (st.h.set i (some (@Chunk.mk (rvX (rowL oe' R)) own n ps))) w':=λoe' w' hv e1 e2 e3 e4 e5 e6=>by
  refine Rl.heap.turnX E hi (d:=@Chunk.mk (rvX (rowL oe' R)) own n ps) (S':=λb=>S i b\/∃r',oe'=some r'/\b=r'.b) id (nlr _) (λj hj=>rfl) e1 e2 e3 e4 e5 (λb hb=>?_) hv
  rcases hb with hb|⟨r',hr',rfl⟩
  .obtain⟨m1,m2,m3⟩:=E.mine i _ b hi hb
   grind
  .have hlt:r'.b<w'.heap.size:=by
    subst hr';exact((hv.at_ r' (qh6 r' R)).2.1).lt
   rcases e6 r' hr' with h|h
   .exact⟨hlt,(E.mine i _ _ hi h).1,.inl h⟩
   omega
 by_cases hm0:m=0
 .subst hm0;have hnews:news=[]:=by
   rcases hsrc X ρ a w Rl with ⟨_,_,h⟩|⟨_,_,_,h,_⟩
   .exact h
   simp_all
  subst hnews;have hset:st.h.set i (some (@Chunk.mk (rvX (rowL oe R)) own n ps))=st.h:=by
   refine ye λj=>?_
   grind
  have same:(Builtin.append_ #[t,t] o.type #[uR (rowO oe),a.eval y]).run P w=.ok (uR (rowO oe)) w:=by
   have hf0:=λad c=>run_firstCells_some (P:=P) w ei.size 0 ad 0 c [] Q8P Q8P
   rcases hsrc X ρ a w Rl with ⟨hv,_,_⟩|⟨ad,c,hv,_,_⟩
   .rw[hv];cases oe with
    | none=>simp[rowO,uR,Builtin.append_,run_underlying h1,sizeOf,typeInfo,h2,Builtin.lenOf,run_firstCells_none]
    | some r=>
     have hc:=((V.at_ r (qh6 r R)).2.1).cap;simp[rowO,uR,Builtin.append_,run_underlying h1,sizeOf,typeInfo,h2,Builtin.lenOf,hc,run_firstCells_none,storeCells]
   .rw[hv];cases oe with
    | none=>
     simp[rowO,uR,Builtin.append_,run_underlying h1,sizeOf,typeInfo,h2,Builtin.lenOf,hf0,storeCells]
    | some r=>
     have hc:=((V.at_ r (qh6 r R)).2.1).cap;simp[rowO,uR,Builtin.append_,run_underlying h1,sizeOf,typeInfo,h2,Builtin.lenOf,hc,hf0,storeCells]
  refine fin oe w (by rw[hx'];exact same) (by rw[hset];exact Rl.heap) ⟨rfl,by simp,hoe,by simp,λr hr=>by subst hr;exact((V.at_ r (qh6 r R)).2.1).cap⟩
 obtain⟨ad,c,hv,hnl,hnc⟩:∃ad c,a.eval y=.slice (some ad) m c/\news.length=m*ei.size/\∀j u,news[j]?=some u->w.cell? (ad.add j)=some u:=by
  rcases hsrc X ρ a w Rl with ⟨_,h,_⟩|h
  .omega
  .exact h
 have fresh:∀(olds:List Value)(q old:Nat),oe=none/\q=0/\olds=[]\/(∃r,oe=some r/\q=r.n/\olds=r.xs)->old<q+m->
   (Builtin.append_ #[t,t] o.type #[uR (rowO oe),a.eval y]).run P w=.ok (.slice (some ⟨w.heap.size,0,none⟩) (q+m) (grownCap w (q+m) old e)) (w.drew.alloc (.cells (olds.toArray++news.toArray++Builtin.zeroCells z.cells (grownCap w (q+m) old e-(q+m))) e))->olds.length=q*ei.size->q=rowN oe->o.wp P a w next Q:=λolds q old hq hold hr hol hqn=>by
  have hge:=grownCap_ge w (q+m) old e
  have hcap:=hcm (q+m) old Q8E
  have hrow:=q85 (w:=w) (e:=e) hol hnl hzs hge hcap
  generalize hcc:grownCap w (q+m) old e=cap at hr hge hcap hrow
  have hB:Below w.heap.size w (w.drew.alloc (.cells (olds.toArray++news.toArray++Builtin.zeroCells z.cells (cap-(q+m))) e)):=((Below.refl _ _).drew).alloc (nlr _) _
  have hxs:jil oe=olds:=by rcases hq with ⟨rfl,_,rfl⟩|⟨r,rfl,_,rfl⟩<;>rfl
  refine fin (some ⟨true,e,ei.size,w.heap.size,0,cap,q+m,olds++news⟩) _ (by rw[hx',hr];rfl) (turn _ _ ?_ hB.os hB.tape hB.output hB.size (λb hb _=>hB.block b hb) λr' hr'=>by obtain rfl:=Option.some.inj hr';exact .inr (nlr _)) ⟨by rw[<-hqn];rfl,by rw[hxs];rfl,λr hr=>by obtain rfl:=Option.some.inj hr;exact⟨rfl,rfl,rfl⟩,⟨(λh=>by cases h),λh=>absurd h.2 hm0⟩,λr hr=>by obtain rfl:=Option.some.inj hr;exact hge⟩
  have hR:∀r∈R,S i r.b/\RwAt w r/\∀W,ZW.z=some W->W.heap.size<=r.b:=λr hr=>V.at_ r (qu4 oe R r hr)
  have hnd:(R.map Rw.b).Nodup:=by
   cases oe with
   | none=>exact V.nodup
   | some r=>have:=V.nodup;rw[show rowL (some r) R=r::R from rfl,xq,xH] at this;exact this.2
  refine⟨?_,λr hr=>?_,λW hW=>?_⟩
  rotate_left 2
  .exact Q3v
  .rw[show ∀r,rowL (some r) R=r::R from λ_=>rfl,xq,xH];refine⟨λhm=>?_,hnd⟩;obtain⟨r,hr,e'⟩:=xE.1 hm;have:=(hR r hr).2.1.lt;simp_all
  .rcases xi.1 hr with rfl|hr
   .exact⟨.inr ⟨_,rfl,rfl⟩,.of hrow,λW hW=>(V.base W hW).2.1⟩
   .exact⟨.inl (hR r hr).1,(hR r hr).2.1.keep (hB.block _ (hR r hr).2.1.lt),(hR r hr).2.2⟩
 cases oe with
 | none=>
  have hr:=run_append_nil (P:=P) w t o.type e ei z h1 h2 hz ad m c news hnl hnc Q8E (by simp only[rowN] at h63;omega) (by simp only[rowN,xr] at hb;omega);refine fresh [] 0 0 (.inl ⟨rfl,rfl,rfl⟩) Q8E ?_ Q8P rfl
  grind[rowO,uR]
 | some r=>
  obtain⟨q1,q2,q3⟩:=hoe r rfl;have A:=(V.at_ r (qh6 r R)).2.1;obtain⟨q4,hat⟩:=A.own q3;have hu:uR (rowO (some r))=.slice (some ⟨r.b,0,none⟩) r.n r.c:=by show Value.slice (some ⟨r.b,r.o,none⟩) r.n r.c=_;rw[q4]
  have hS:=(V.at_ r (qh6 r R)).1;have hxl:r.xs.length=r.n*ei.size:=by rw[A.len,q2]
  have hcel:∀j,j<r.xs.length->w.cell? ⟨r.b,j,none⟩=r.xs[j]?:=λj hj=>by have:=A.cell j hj;rw[q4,xr] at this;exact this
  obtain⟨cur,z0,hh,hz0,hcs⟩:=hat;rw[q2] at hcs;have hat:=qu3 hh hz0;by_cases hroom:r.n+m<=r.c
  .have hin:∀j,j<news.length->r.n*ei.size+j<cur.size:=λj hj=>by
    have h3:(r.n+m)*ei.size<=r.c*ei.size:=xV _ hroom
    grind
   have hst:=run_storeCells_cells (P:=P) r.b (r.n*ei.size) news 0 w (λj hj=>(hat _ (by have:=hin j hj;omega)).1) (λj hj=>(hat _ (by have:=hin j hj;omega)).2) hone;rw[xZ] at hst;obtain⟨z1,z2,z3,z4,z5⟩:=qi8 r.b news (r.n*ei.size) w;have zf:=λx=>World.frozen?_setCells r.b news (r.n*ei.size) w x
   have zi:=World.cell?_setCells_in r.b news (r.n*ei.size) w (λj hj=>(hat _ (hin j hj)).1);have zo:∀j,j<r.n*ei.size\/r.n*ei.size+news.length<=j->(w.setCells r.b (r.n*ei.size) news).cell? ⟨r.b,j,none⟩=w.cell? ⟨r.b,j,none⟩:=λj hj=>World.cell?_setCells_out r.b news (r.n*ei.size) w ⟨r.b,j,none⟩ λ_ _=>hj
   have hr:(Builtin.append_ #[t,t] o.type #[.slice (some ⟨r.b,0,none⟩) r.n r.c,.slice (some ad) m c]).run P w=.ok (.slice (some ⟨r.b,0,none⟩) (r.n+m) r.c) (w.setCells r.b (r.n*ei.size) news):=by
    have hf:=run_firstCells_some (P:=P) w ei.size m ad m c news hnl hnc;simp[Builtin.append_,run_underlying h1,sizeOf,typeInfo,h2,Builtin.lenOf,hroom,hf,Addr.add_lit,hst]
   generalize hw':w.setCells r.b (r.n*ei.size) news=w' at *;have hrow:RwAt w' ⟨true,e,ei.size,r.b,0,r.c,r.n+m,r.xs++news⟩:=by
    refine⟨by rw[z4];exact A.lt,by show(r.xs++news).length=(r.n+m)*ei.size;rw[yr,hxl,hnl,xO],hroom,λj hj=>?_,λ_=>⟨rfl,?_⟩⟩
    .have hj:j<(r.xs++news).length:=hj;show w'.cell? ⟨r.b,0+j,none⟩=(r.xs++news)[j]?;rw[xr];by_cases hlt:j<r.xs.length
     .grind
     .rw[yr] at hj;have hk:j-r.n*ei.size<news.length:=by omega
      have:=zi (j-r.n*ei.size) hk;rw[show r.n*ei.size+(j-r.n*ei.size)=j by omega] at this;rw[this,zr Q8E,hxl,xt hk]
    .obtain⟨cur',g1,g2⟩:=qj7 r.b news (r.n*ei.size) w cur r.e z0 hh
     grind
   refine fin (some ⟨true,e,ei.size,r.b,0,r.c,r.n+m,r.xs++news⟩) w' (by rw[hx',hv,hu];exact hr) (turn _ _ ?_ z1 z2 z3 (yx z4.symm) (λb hb hnS=>z5 b λe'=>hnS (e'▸hS)) λr' hr'=>by obtain rfl:=Option.some.inj hr';exact .inl hS) ⟨rfl,rfl,λr' hr'=>by obtain rfl:=Option.some.inj hr';exact⟨rfl,rfl,rfl⟩,⟨(λh=>by cases h),λh=>absurd h.2 hm0⟩,λr' hr'=>by obtain rfl:=Option.some.inj hr';exact hroom⟩;have hnd:r.b∉R.map Rw.b/\(R.map Rw.b).Nodup:=by have:=V.nodup;rw[show rowL (some r) R=r::R from rfl,xq,xH] at this;exact this
   have hrb:=(V.at_ r (qh6 r R)).2.2;refine⟨?_,λr' hr'=>?_,λW hW=>?_⟩;rotate_left 2
   .obtain⟨b1,b2,b3⟩:=V.base W hW;have:=hrb W hW;exact⟨b1,by omega,λb hb=>⟨.inl (b3 b hb).1,(z5 b λe'=>by omega).trans (b3 b hb).2⟩⟩
   .rw[show ∀r,rowL (some r) R=r::R from λ_=>rfl,xq,xH];exact hnd
   .rcases xi.1 hr' with rfl|hr'
    .grind
    .obtain⟨g1,g2,g3⟩:=V.at_ r' (qu4 _ _ _ hr');exact⟨.inl g1,g2.keep (z5 _ λe'=>hnd.1 (xE.2 ⟨r',hr',e'⟩)),g3⟩
  .have holds:∀j u,r.xs[j]?=some u->w.cell? ((⟨r.b,0,none⟩:Addr).add j)=some u:=λj u hju=>by
    grind[qdn]
   have hr:=run_append_grow (P:=P) w t o.type e ei z h1 h2 hz ⟨r.b,0,none⟩ r.n r.c r.xs hxl holds ad m c news hnl hnc Q8E (by simp only[rowN] at h63;omega) (growslice_fits Q8E hb);refine fresh r.xs r.n r.c (.inr ⟨r,rfl,rfl,rfl⟩) Q8E ?_ hxl rfl
   grind
def jmu(y:Operand)(st:St)(hs:List Nat)(m k:Nat)(news:List Value):Prop:=
 ∀st₂:St,(∀u,EvTo y st u->EvTo y st₂ u)->(∀i∈hs,st₂.h[i]?=st.h[i]?)->∀X ρ a w,Rel X ρ st₂ a w->SrcR w (a.eval y) m k news
theorem q0h[ZW]{x y:Operand}{t e:TypeId}{ei:TypeInfo}{z p:Value}{own:Bool}(oe:Option Rw)(R:List Rw)(i m:Nat)(news:List Value)
  (ho:o.op=.call ⟨.builtin .append,#[x,y],#[t,t]⟩) (hx:EvTo x st p) (hp:∀ρ,den ρ p=uR (rowO oe))
  (h1:P.underlying t=some (.slice e)) (h2:P.info? e=some ei) (hz:ei.zero=some z) (hzs:z.cells.size=ei.size) (hs0:0<ei.size)
  (hi:st.h[i]?=some (some (@Chunk.mk (rvX (rowL oe R)) own n ps))) (hoe:∀r,oe=some r->r.e=e/\r.k=ei.size/\r.w=true) (hs:List Nat) (hsrc:jmu y st hs m ei.size news) (hone:∀u∈news,u.oneCell'=true)
  (h63:rowN oe+m<=35184372088831) (hb:(rowN oe+m)*ei.bytes<=140737488355328)
  (hK:∀oe',Grew oe oe' e ei.size m news->K (uV (rowO oe')) [(i,@Chunk.mk (rvX (rowL oe' R)) own n ps)]):N (EffAll P o st K):=
 N.mk (q31 oe R m news ho hx hp h1 h2 hz hzs hs0 hi hoe (hsrc st (λ_ h=>h) λ_ _=>rfl) hone h63 hb hK)
theorem qlv{y:Operand}{j g u m q k:Nat}{cj:Chunk}{cs:List Value}(hs:List Nat)(hjs:j∈hs)(hy:EvTo y st (.slice (some ⟨j,g,some u⟩) m q))(hj:st.h[j]?=some (some cj))(hr:Reads cj g true (m*k) (.agg ⟨cs⟩))(hp:cs.all qbi=true):
  jmu y st hs m k cs:=λst₂ ha hh X ρ a w Rl=>by
 have hj:=(hh j hjs).trans hj
 have hy:=ha _ hy
 have hy':a.eval y=.slice (some ⟨(ρ j).1,(ρ j).2+g,none⟩) m q:=(hy.den Rl).self.symm
 obtain⟨cs',e,hcl,hcc,hcd⟩:=qhy Rl.heap hj hr
 obtain rfl:cs=cs':=by simpa using e
 refine .inr ⟨_,q,hy',hcl,λl v hv=>hcc l v ?_⟩
 have hl:=(xg.1 hv).1
 rw[yl,hv]
 have:qbi v=true:=yf.1 hp v (xL hv)
 show some (den1 ρ v)=some v
 rw[qbl this]
theorem qu5[ZW]{t:TypeId}{x:Operand}{f i:Nat}{own:Bool}{R:List Rw}(r:Rw){v:Value}(p:Nat)(hG:jey P G)(ho:o.op=.load t x)(hx:EvTo x st (.pointer (some ⟨r.b,f,none⟩)))(hf:f=r.o+p)(hi:st.h[i]?=some (some (@Chunk.mk (rvX R) own n ps)))(hr:r∈R)
  (ht:jeq G t λ_ d=>qd2 d=false) (hp:qbi v=true) (hk:r.xs[p]?=some v):OKs P o st v [] [i]:=λst₂ hs hh _=>
 qay λX ρ a w R'=>by
  have hi2:=(hh i Q8P).trans hi;have hx':=qot (hs x Q8L _ hx) rfl R';obtain⟨ti,d,_,h2,hd⟩:=qao hG ht;obtain⟨S,E⟩:=R'.heap.ext;have V:RvOK R (ρ i) (S i) w:=E.inv i _ hi2;have hy:=((V.at_ r hr).2.1.cell p (xg.1 hk).1).trans hk;rw[<-hf] at hy;exact Q44
theorem q0i{t e:TypeId}{x:Operand}{lo hi:Option Operand}{vl vh:Option Value}{b f l c p q:Nat}{ei:TypeInfo}(ho:o.op=.slice t x lo hi none)(hx:EvTo x st (uV (some ⟨b,f,l,c,none⟩)))(hl:OptTo st lo vl)(hh:OptTo st hi vh)(h1:P.underlying t=some (.slice e))(h2:P.info? e=some ei)
  (hq:Bnd vh l c q) (hp:Bnd vl 0 q p):OKs P o st (uV (some ⟨b,f+(if c=p then 0 else p*ei.size),q-p,c-p,none⟩)) [] []:=λst₂ hs _ _=>
 qay λX ρ a w R=>by
  have hx':a.eval x=.slice (some ⟨b,f,none⟩) l c:=by rw[<-((hs x Q8L _ hx).den R).self,qbs];rfl
  have e1:=qgc R hl (λy hy=>hs y Q8Y);have e2:=qgc R hh (λy hy=>hs y Q8Y);refine⟨uR (some ⟨b,f+(if c=p then 0 else p*ei.size),q-p,c-p,none⟩),?_,λr _=>qbs _ r⟩;refine Q3A ?_;by_cases hc:c=p<;>simp[hc,uR]
end
open Go Go.RowKit
theorem qre:∀{l:List Rw},(l.map Rw.b).Nodup->∀{q r:Rw},q∈l->r∈l->q.b=r.b->q=r
 | [],_,q,r,hq,_,_=>by cases hq
 | x::l,h,q,r,hq,hr,e=>by
  rw[xq,xH] at h;rcases xi.1 hq with hq2|hq2<;>rcases xi.1 hr with hr2|hr2
  .rw[hq2,hr2]
  .grind
  .simp_all
  .exact qre h.2 hq2 hr2 e
variable{ρ:Rz}{ps:Pz}
theorem jdd[ZW]{X:Ctx}{h:Hp}{w':World}{i:Nat}{R:List Rw}{r:Rw}{own:Bool}{n:Nat}(H:HOK X ρ h w)(hi:h[i]?=some (some (@Chunk.mk (rvX R) own n ps)))(hB:Below w.heap.size w w')(he:RwAt w' r)(hge:w.heap.size<=r.b):HOK X ρ (h.set i (some (@Chunk.mk (rvX (r::R)) own n ps))) w':=by
 obtain⟨S,E⟩:=H.ext;have V:RvOK R (ρ i) (S i) w:=E.inv i _ hi;have hpi:=H.lt i _ hi;refine H.turnX E hi (d:=@Chunk.mk (rvX (r::R)) own n ps) (S':=λb=>S i b\/b=r.b) id (nlr _) (λj hj=>rfl) hB.os hB.tape hB.output hB.size (λb hb _=>hB.block b hb) (λb hb=>?_) ?_
 .rcases hb with hb|rfl
  .obtain⟨m1,m2,m3⟩:=E.mine i _ b hi hb;exact⟨xl m2 hB.size,m1,.inl hb⟩
  .exact⟨he.lt,.inr Q8E,.inr hge⟩
 .refine⟨?_,λq hq=>?_,λW hW=>?_⟩
  .rw[xq,xH];refine⟨λhm=>?_,V.nodup⟩;obtain⟨q,hq,e'⟩:=xE.1 hm;have:=(V.at_ q hq).2.1.lt;omega
  .rcases xi.1 hq with rfl|hq
   .exact⟨.inr rfl,he,λW hW=>xC (V.base W hW).2.1 hge⟩
   .exact⟨.inl (V.at_ q hq).1,(V.at_ q hq).2.1.keep (hB.block _ (V.at_ q hq).2.1.lt),(V.at_ q hq).2.2⟩
  .exact Q3v
section
variable{P:Program}{G:Tys}{o:Oper}{st:St}
variable{R:List Rw}{ps:Pz}
theorem qwl[ZW]{t e:TypeId}{m i:Nat}{pp:Array (Nat×Operand)}{vs:Vz}{ei:TypeInfo}{z:Value}{out:List Value}{own:Bool}{n:Nat}{K:Value->Mz->Prop}
  (ho:o.op=.buildSlice t m pp) (hx:qfb st pp.toList vs) (h2:P.underlying t=some (.slice e)) (h3:P.info? e=some ei) (hz:ei.zero=some z) (hp:qap z=true) (hfz:flatB z ei.size=true) (hs0:0<ei.size) (hn:m*ei.size<=16777216)
  (hout:jf0 (λi=>some (i*ei.size,ei.size)) (segL (m*ei.size) (jfj ei.size z)) vs=some out) (hlen:out.length=m*ei.size) (hpl:out.all qbi=true) (hm0:0<m*ei.size)
  (hi:st.h[i]?=some (some (@Chunk.mk (rvX R) own n ps)))
  (hK:∀b,K (uV (some ⟨b,0,m,m,none⟩)) [(i,@Chunk.mk (rvX (⟨true,e,ei.size,b,0,m,m,out⟩::R)) own n ps)]):EffAll P o st K:=λX ρ a w Rl next Q hk=>by
 obtain⟨e1,e2⟩:=qgb Rl _ _ hx (λp hp=>λu hu=>hu)
 have hzv:(zeroValue e).run P w=.ok z w:=by simp[zeroValue,typeInfo,Sem.run_bind,run_program,Result.andThen_ok,h3,hz]
 have hcells:((Array.range (m*ei.size)).map (z.cells[· % z.cells.size]!))=⟨(segL (m*ei.size) (jfj ei.size z)).map (den1 ρ)⟩:=by
  grind[qks,qem]
 have hr:=qeh (ρ:=ρ) vs _ _ hout
 rw[<-e1] at hr
 have hmap:out.map (den1 ρ)=out:=(yp λv hv=>qbl (yf.1 hpl v hv) ρ).trans (List.map_id _)
 have hf:Instr.fill (λi=>some (i*ei.size,ei.size)) ⟨(segL (m*ei.size) (jfj ei.size z)).map (den1 ρ)⟩ ((pp.map fun(p:Nat×Operand)=>(p.1,a.eval p.2)).toList)=some ⟨out⟩:=by
  simp_all
 have hrun:(execOp a.eval o).run P w=.ok (.value (.slice (some ⟨w.heap.size,0,none⟩) m m)) (w.alloc (.cells ⟨out⟩ e)):=by
  have g1:¬ m*ei.size > 2^24:=by omega
  have g2:¬ m*ei.size=0:=by omega
  exact Q3q
 have hB:Below w.heap.size w (w.alloc (.cells ⟨out⟩ e)):=(Below.refl _ _).alloc (nlr _) _
 have hrow:RwAt (w.alloc (.cells ⟨out⟩ e)) ⟨true,e,ei.size,w.heap.size,0,m,m,out⟩:=.row (heap_alloc_new w _) (.inl rfl) (by show out.length=m*ei.size;exact hlen) (by show out.take (m*ei.size)=out;rw[<-hlen];exact List.take_length) hlen (nlr _)
 have H':=jdd Rl.heap hi hB hrow (nlr _)
 unfold Oper.wp
 rw[hrun]
 exact hk _ _ ρ _ _ (hK w.heap.size) ⟨AgreeOn.refl _ _,H',λr _=>qbs _ r⟩
theorem q86[ZW]{s e:TypeId}{x:Operand}{i:Nat}{own:Bool}{n:Nat}(r:Rw)(ho:o.op=.convert s s x)(hx:EvTo x st (uV (some r.sl)))(h1:P.underlying s=some (.slice e))(h2:P.underlying e=some (.int .u8))(hw:r.w=true)(hr:r∈R)(hi:st.h[i]?=some (some (@Chunk.mk (rvX R) own n ps))):OKs P o st (uV (some r.sl)) [(i,@Chunk.mk (rvX R) own n ps)] []:=λst₂ hs _ hh=>
 qcv λX ρ a w Rl=>by
  have hi:=(hh _ Q7d).trans hi;have hx':a.eval x=uR (some r.sl):=by rw[<-((hs x Q8L _ hx).den Rl).self,qbs]
  obtain⟨S,E⟩:=Rl.heap.ext;have V:RvOK R (ρ i) (S i) w:=E.inv i _ hi;obtain⟨hSb,A,hZ⟩:=V.at_ r hr;obtain⟨q4,cur,z,hhb,hz,hcs⟩:=A.own hw;have hsh:w.shape? r.b=some (r.e,cur.size):=by unfold World.shape?;rw[hhb]
  let z':Nat×Nat:=if z.1==z.2 then (cur.size,cur.size+1) else (min z.1 cur.size,max z.2 (cur.size+1));have hb':(w.freeze ⟨r.b,cur.size,none⟩ 1).heap[r.b]?=some (.cells cur r.e z'):=by
   unfold World.freeze;rw[if_neg Q8I];simp only[zp,if_pos,hhb,yD];rfl
  have hoth:∀k,k≠r.b->(w.freeze ⟨r.b,cur.size,none⟩ 1).heap[k]?=w.heap[k]?:=λk hk=>by
   unfold World.freeze;rw[if_neg Q8I];simp only[zp,if_neg (Ne.symm hk)]
  have hsz:(w.freeze ⟨r.b,cur.size,none⟩ 1).heap.size=w.heap.size:=by
   unfold World.freeze;rw[if_neg Q8I];simp
  have hz':z'.1=z'.2\/cur.size<=z'.1:=by
   show(if z.1==z.2 then (cur.size,cur.size+1) else (min z.1 cur.size,max z.2 (cur.size+1))).1=(if z.1==z.2 then (cur.size,cur.size+1) else (min z.1 cur.size,max z.2 (cur.size+1))).2\/cur.size<=(if z.1==z.2 then (cur.size,cur.size+1) else (min z.1 cur.size,max z.2 (cur.size+1))).1;by_cases e:z.1=z.2
   .rw[if_pos (yk.2 e)];exact .inr (nlr _)
   .rw[if_neg (by rw[yk];exact e)];rcases hz with hz|hz
    .exact absurd hz e
    .exact .inr (by show cur.size<=min z.1 cur.size;omega)
  have hrow:RwAt (w.freeze ⟨r.b,cur.size,none⟩ 1) r:=by
   refine⟨by rw[hsz];exact A.lt,A.len,A.cap,λj hj=>?_,λ_=>⟨q4,cur,z',hb',hz',hcs⟩⟩;rw[<-A.cell j hj];simp only[World.cell?,hb',hhb]
  refine⟨ρ,uR (some r.sl),w.freeze ⟨r.b,cur.size,none⟩ 1,?_,AgreeOn.refl _ _,?_,λr' _=>qbs _ r'⟩
  .have hrun:(markStringish ⟨r.b,r.o,none⟩).run P w=.ok () (w.freeze ⟨r.b,cur.size,none⟩ 1):=by
    simp only[markStringish,Sem.run_bind,run_shape,Result.andThen_ok,hsh,run_freeze]
   simp only[execOp,ho,hx',convert,underlying,Sem.run_bind,run_program,Result.andThen_ok,h1,h2,Sem.run_pure,uR,beq_self_eq_true,hrun]
  .refine Rl.heap.turnX E hi (d:=@Chunk.mk (rvX R) own n ps) (S':=S i) id (nlr _) (λj hj=>rfl) ?_ ?_ ?_ (yx hsz.symm) (λb _ hnS=>hoth b λe'=>hnS (e'▸hSb)) (λb hb=>?_) ?_
   .exact Q4R
   .exact Q4R
   .exact Q4R
   .obtain⟨m1,m2,m3⟩:=E.mine i _ b hi hb;exact⟨by rw[hsz];exact m2,m1,.inl hb⟩
   .refine⟨V.nodup,λq hq=>⟨(V.at_ q hq).1,?_,(V.at_ q hq).2.2⟩,λW hW=>?_⟩
    .by_cases e:q.b=r.b
     .rw[qre V.nodup hq hr e];exact hrow
     .exact(V.at_ q hq).2.1.keep (hoth _ e)
    .obtain⟨b1,b2,b3⟩:=V.base W hW;have:=hZ W hW;exact⟨b1,by omega,λb hb=>⟨(b3 b hb).1,(hoth b λe'=>by omega).trans (b3 b hb).2⟩⟩
end
theorem HOK.soft{X:Ctx}{h:Hp}{i n:Nat}{o:Bool}{x y:Ext}(H:HOK X ρ h w)(hi:h[i]?=some (some (@Chunk.mk x o n ps)))(hxy:∀p S w,x.inv p S w->y.inv p S w):HOK X ρ (h.set i (some (@Chunk.mk y o n ps))) w:=by
 have hil:=(xg.1 hi).1;obtain⟨S,E⟩:=H.ext;have back:∀(j:Nat)(d:Chunk),(h.set i (some (@Chunk.mk y o n ps)))[j]?=some (some d)->∃d0:Chunk,h[j]?=some (some d0)/\d.own=d0.own/\d.n=d0.n/\(∀l,d.f l=d0.f l)/\(∀p S w,d0.x.inv p S w->d.x.inv p S w):=λj d hj=>by
  by_cases e:i=j
  .subst e;rw[xG hil] at hj;obtain rfl:=Option.some.inj (Option.some.inj hj);exact⟨_,hi,rfl,rfl,λ_=>rfl,hxy⟩
  simp_all
 have fil:∀j,Fil h j->Fil (h.set i (some (@Chunk.mk y o n ps))) j:=λj hj=>hj.set
 refine⟨H.evo,λj hj=>⟨fil j (H.base j hj).1,(H.base j hj).2⟩,λj d hj=>?_,λj d hj l hl=>?_,λj d hj ho l hl=>?_,λj d l e hj ho hl hne=>?_,S,λj d hj=>?_,λj d b hj hb=>?_,λj d b l e hj hb hl hne=>?_⟩
 .obtain⟨d0,h0,_⟩:=back j d hj;exact H.lt _ _ h0
 .obtain⟨d0,h0,_,hn,hf,_⟩:=back j d hj;obtain⟨v,hv,hd⟩:=H.cell j d0 h0 l Q8E;exact⟨v,hv,by rw[hf];exact hd.more (AgreeOn.refl _ _) fil⟩
 .obtain⟨d0,h0,h1,hn,_⟩:=back j d hj;exact H.own j d0 h0 (h1▸ho) l Q8E
 .obtain⟨d0,h0,h1,_⟩:=back j d hj;obtain⟨e0,g0,_⟩:=back l e hl;exact H.sep _ _ _ _ h0 (h1▸ho) g0 hne
 .obtain⟨d0,h0,_,_,_,hx⟩:=back j d hj;exact hx _ _ _ (E.inv j d0 h0)
 .obtain⟨d0,h0,_,hn,_⟩:=back j d hj;rw[hn];exact E.mine j d0 b h0 hb
 .obtain⟨d0,h0,_⟩:=back j d hj;obtain⟨e0,g0,_⟩:=back l e hl;exact E.apart j d0 b l e0 h0 hb g0 hne
theorem q87[ZW]{R R2:List Rw}(hs:List.Sublist R R2):∀p S w,(rvX R2).inv p S w->(rvX R).inv p S w:=λp S w V=>by
 have V:RvOK R2 p S w:=V;exact⟨(hs.map _).nodup V.nodup,λr hr=>V.at_ r (hs.subset hr),V.base⟩
theorem CallAll.soft{P:Program}{g:FuncId}{vs:List Value}{h:Hp}{R R':Value->Mz->Prop}(k:CallAll P g vs h R)(hR:∀v ms,R v ms->∃(i:Nat)(x y:Ext)(o:Bool)(n:Nat)(ps:Pz)(ms':Mz),(modH h ms)[i]?=some (some (@Chunk.mk x o n ps))/\(∀p S w,x.inv p S w->y.inv p S w)/\(modH h ms).set i (some (@Chunk.mk y o n ps))=modH h ms'/\R' v ms'):CallAll P g vs h R':=by
 intro X ρ w xs H hx;have go:∀x w',(∃v ms ρ',R v ms/\AgreeOn (Fil h) ρ ρ'/\HOK X ρ' (modH h ms) w'/\Den (Fil (modH h ms)) ρ' v x)->∃v ms ρ',R' v ms/\AgreeOn (Fil h) ρ ρ'/\HOK X ρ' (modH h ms) w'/\Den (Fil (modH h ms)) ρ' v x:=λx w' ⟨v,ms,ρ',hq,ha,hH,hd⟩=>by
  obtain⟨i,ex,ey,o,n,ps,ms',h1,h2,h3,h4⟩:=hR v ms hq;have hH':=hH.soft h1 h2;rw[h3] at hH';exact⟨v,ms',ρ',h4,ha,hH',hd.more (AgreeOn.refl _ _) λj hj=>by rw[<-h3];exact hj.set⟩
 rcases k X ρ w xs H hx with ⟨v,w',hr,hq⟩|⟨hr,hcl⟩
 .exact .inl ⟨v,w',hr,go _ _ hq⟩
 .exact .inr ⟨hr,hcl.mono λe w' ⟨y,he,hq⟩=>⟨y,he,go _ _ hq⟩⟩
section
variable{P:Program}{G:Tys}
variable{vs:List Value}
theorem qou{g:FuncId}{h:Hp}{slot:Nat}{C:List Nat->Prop}{K:List Nat->Value->Mz->Prop}(hs:List Nat)(R:Value->Mz->Prop)(hC:C hs)(hc:∀h₂:Hp,(∀q∈hs,h₂[q]?=h[q]?)->CallAll P g vs h₂ R)(k:∀v ms,R v ms->(∀q∈ms.map (·.1),q∈hs)/\K hs v ms):N (jia P g vs h slot C K):=N.mk ⟨hs,R,hC,hc,k⟩
theorem q0j[ZW]{f:FuncId}{fn:Func}{c:Code}(W:World)(hz:ZW.z=some W){α:Type}(V:α->Value)(D:α->List Rw)(ok:α->Prop)(hG:jey P G)(hm:P.follows .mixedOrders=true)(hf:P.funcs[f]?=some fn)(hb:fn.body=some c)(hW:0<W.heap.size)(hp:vs.all qap=true)(hV:∀κ r r',den r (V κ)=den r' (V κ))
  (hwp:initK vs fn.ntmps λt=>wpC P G 1 c (bodyQ P G fn λv st=>N (∃κ,ok κ/\v=V κ/\st.h[0]?=some (some (rvC (D κ))))) ⟨t,[some (rvC [])]⟩):Calls P f ⟨vs⟩ W λe w'=>∃κ,ok κ/\e=.returned (den (λ_=>(0,0)) (V κ))/\Below W.heap.size W w'/\∀r∈D κ,RwAt w' r/\W.heap.size<=r.b:=by
 let X:Ctx:=⟨W,λa=>a.block<W.heap.size,1,λ_=>(0,0)⟩
 have one:∀(k:Nat)(d:Chunk),[some (rvC [])][k]?=some (some d)->k=0/\d=rvC []:=λk d hk=>Q3E
 have H:HOK X (λ_=>(0,0)) [some (rvC [])] W:=Q1c
 have hd:∀{vs:List Value},vs.all qap=true->All2 (Den (Fil [some (rvC [])]) λ_=>(0,0)) vs vs:=by
  intro vs
  induction vs with
  | nil=>exact λ_=>trivial
  | cons v r ih=>
   intro hp;simp only[yq,xp] at hp;exact⟨Den.plain hp.1,ih hp.2⟩
 refine(qfv (args:=⟨vs⟩) (X:=X) hG hm hf hb H (hd hp) hwp).mono ?_
 rintro e w' ⟨ρ',v,st,x,rfl,H',hdx,hq⟩
 obtain⟨κ,hκ,rfl,hF⟩:=hq.out
 obtain⟨S,E⟩:=H'.ext
 have M:RvOK (D κ) (ρ' 0) (S 0) w':=E.inv 0 _ hF
 refine⟨κ,hκ,?_,⟨H'.evo.os,H'.evo.tape,H'.evo.output,H'.evo.size,λb hb=>((M.base W hz).2.2 b hb).2⟩,λr hr=>⟨(M.at_ r hr).2.1,(M.at_ r hr).2.2 W hz⟩⟩
 rw[<-hdx.self,hV κ ρ' λ_=>(0,0)]
end
end Go.Proofs.YtfkngpmgcimdbaaGreat.Sx


namespace Go.Proofs.YtfkngpmgcimdbaaGreat
open Go Go.RowKit Sx
variable{ix:List (Nat×Nat)}
theorem qa9{v u:Value}(h:v=u)(hp:qan v=true):Re ix v u:=by subst h;exact .plain hp
theorem qb2[ZW]{R R':List Rw}:∀j,j<0->Re1 ix ((rvC R).f j) ((rvC R').f j):=by omega
theorem qdq[ZW]{R:List Rw}:ChunkReLe ix (rvC R) (rvC R):=⟨id,nlr _,qb2⟩
theorem qa1{k:IntKind}{a b:Int}(h:a=b):Value.int k a=.int k b:=by rw[h]
variable{n m:Nat}
theorem qss{o:Bool}{l:List Value}(hl:l.length=n)(hm:m=n):Reads ⟨o,n,[(0,n,.agg ⟨l⟩)]⟩ 0 true m (.agg ⟨l⟩):=by
 subst hl hm;refine⟨yx (xr _),_,rfl,rfl,λj hj=>?_⟩;show qbf _ _=_;rw[qar,if_pos Q8E,xr,Nat.sub_zero];rfl
def qi9(n:Int)(i:Nat):Int:=n / 256^i%256
def beK(n:Int)(w:Nat):Nat->List Int
 | 0=>[]
 | k+1=>beK n w k++[qi9 n (w-1-k)]
abbrev be(n:Int)(w:Nat):List Int:=beK n w w
theorem qst(n:Int)(w:Nat):∀k,(beK n w k).length=k
 | 0=>rfl
 | k+1=>by rw[beK,yr,qst n w k];rfl
structure BufOK(r:Rw)(bs:List Int):Prop where
 w:r.w=true
 e:r.e=5
 k:r.k=1
 n:r.n=bs.length
 xs:r.xs=bs.map (Value.int .u8)
theorem BufOK.grew{r r':Rw}{bs cs:List Int}(h:BufOK r bs)(hg:Grew (some r) (some r') 5 1 cs.length (cs.map (Value.int .u8))):BufOK r' (bs++cs):=by
 obtain⟨h1,h2,h3⟩:=hg.ty r' rfl;exact⟨h3,h1,h2,by have:=hg.n;show rowN (some r')=_;rw[this,yr];show r.n+_=_;rw[h.n],by have:=hg.xs;show jil (some r')=_;rw[this,zd];show r.xs++_=_;rw[h.xs]⟩
theorem q0k:∃ei z,prog.info? 5=some ei/\ei.size=1/\ei.bytes<=1000/\ei.zero=some z/\z.cells.size=1:=by
 obtain⟨ei,d,h1,h2,h3⟩:=qao tysOK (t:=5) (K:=λei _=>ei.size=1/\ei.bytes<=1000/\∃z,ei.zero=some z/\z.cells.size=1) ⟨rfl,by decide,_,rfl,rfl⟩;simp_all
theorem q0l(M:List Int):∀u∈M.map (Value.int .u8),u.oneCell'=true:=λu hu=>by
 obtain⟨e,_,rfl⟩:=xE.1 hu;rfl
variable{ps:Pz}{K:Value->Mz->Prop}
theorem jlz[ZW]{o:Oper}{st:St}{x y:Operand}{p:Value}{own:Bool}(r:Rw)(R:List Rw)(bs cs:List Int)(i:Nat)(hs:List Nat)(hr:BufOK r bs)
  (ho:o.op=.call ⟨.builtin .append,#[x,y],#[37,37]⟩) (hx:EvTo x st p) (hp:∀ρ,den ρ p=uR (some r.sl)) (hi:st.h[i]?=some (some (@Chunk.mk (rvX (r::R)) own n ps)))
  (hsrc:jmu y st hs cs.length 1 (cs.map (Value.int .u8))) (hl:bs.length+cs.length<=100000) (hK:∀r',BufOK r' (bs++cs)->K (uV (some r'.sl)) [(i,@Chunk.mk (rvX (r'::R)) own n ps)]):N (EffAll prog o st K):=by
 obtain⟨ei,z,h1,h2,h3,h4,h5⟩:=q0k
 have hn:rowN (some r)=bs.length:=hr.n
 have hb:(rowN (some r)+cs.length)*ei.bytes<=100000*1000:=ym (by rw[hn];exact hl) h3
 refine q0h (e:=5) (ei:=ei) (z:=z) (some r) R i cs.length (cs.map (Value.int .u8)) ho hx hp underlying37 h1 h4 (by rw[h5,h2]) Q9L hi (λq hq=>by cases hq;rw[h2];exact⟨hr.e,hr.k,hr.w⟩) hs (by rw[h2];exact hsrc) (q0l cs) (by rw[hn];omega) Q8E λoe' hg=>?_
 rw[h2] at hg
 cases oe' with
 | none=>exact absurd (hg.nil.1 rfl).1 Q8P
 | some r'=>exact hK r' (hr.grew hg)
abbrev jp6(n:Int):Bool:=IntKind.u32.wrap ((BitVec.ofInt IntKind.u32.bits n &&& BitVec.ofInt IntKind.u32.bits 1).toNat:Int)==1
abbrev jfp(a b:Int):Int:=IntKind.u32.wrap ((BitVec.ofInt IntKind.u32.bits a ^^^ BitVec.ofInt IntKind.u32.bits b).toNat:Int)
abbrev jgy(n k:Int):Int:=n.fdiv (2^sh k IntKind.u32)
def jov(n:Int):Int:=if jp6 n=true then jfp (jgy n 1) 3988292384 else jgy n 1
def jjg(n:Int):Nat->Int
 | 0=>n
 | k+1=>jov (jjg n k)
def jim(i:Nat):Int:=jjg (IntKind.u32.wrap (i:Int)) 8
structure TabOK(oe:Option Rw)(l:List Int):Prop where
 n:rowN oe=l.length
 xs:jil oe=l.map (Value.int .u32)
 ty:∀r,oe=some r->r.e=104/\r.k=1/\r.w=true
theorem TabOK.nil:TabOK none []:=⟨rfl,rfl,(λr h=>by cases h)⟩
theorem TabOK.grew{oe oe':Option Rw}{M M2:List Int}(h:TabOK oe M)(hg:Grew oe oe' 104 1 M2.length (M2.map (Value.int .u32))):TabOK oe' (M++M2):=
 ⟨by rw[hg.n,h.n,yr],by rw[hg.xs,h.xs,zd],hg.ty⟩
theorem q32:∃ei z,prog.info? 104=some ei/\ei.size=1/\ei.bytes<=1000/\ei.zero=some z/\z.cells.size=1:=by
 obtain⟨ei,d,h1,h2,h3⟩:=qao tysOK (t:=104) (K:=λei _=>ei.size=1/\ei.bytes<=1000/\∃z,ei.zero=some z/\z.cells.size=1) ⟨rfl,by decide,_,rfl,rfl⟩;simp_all
theorem q33(M:List Int):∀u∈M.map (Value.int .u32),u.oneCell'=true:=λu hu=>by
 obtain⟨e,_,rfl⟩:=xE.1 hu;rfl
theorem jq1[ZW]{o:Oper}{st:St}{x y:Operand}{p:Value}{own:Bool}(oe:Option Rw)(R:List Rw)(M M2:List Int)(i:Nat)(hs:List Nat)(hoe:TabOK oe M)
  (ho:o.op=.call ⟨.builtin .append,#[x,y],#[87,87]⟩) (hx:EvTo x st p) (hp:∀ρ,den ρ p=uR (rowO oe)) (hi:st.h[i]?=some (some (@Chunk.mk (rvX (rowL oe R)) own n ps)))
  (hsrc:jmu y st hs M2.length 1 (M2.map (Value.int .u32))) (hl:M.length+M2.length<=100000) (hK:∀oe',TabOK oe' (M++M2)->K (uV (rowO oe')) [(i,@Chunk.mk (rvX (rowL oe' R)) own n ps)]):N (EffAll prog o st K):=by
 obtain⟨ei,z,h1,h2,h3,h4,h5⟩:=q32
 have hb:(rowN oe+M2.length)*ei.bytes<=100000*1000:=ym (by rw[hoe.n];exact hl) h3
 exact q0h (e:=104) (ei:=ei) (z:=z) oe R i M2.length (M2.map (Value.int .u32)) ho hx hp underlying87 h1 h4 (by rw[h5,h2]) Q9L hi (λr hr=>by rw[h2];exact hoe.ty r hr) hs (by rw[h2];exact hsrc) (q33 M2) (by rw[hoe.n];omega) Q8E λoe' hg=>hK oe' (hoe.grew (by rw[h2] at hg;exact hg))
def jhz(k:Nat):List Int:=(List.range k).map jim
theorem qov(k:Nat):(jhz k).length=k:=by grind[jhz]
theorem jde[ZW](R:List Rw)(i:Nat)(h:Hp)(hi:h[i]?=some (some (rvC R))):
  CallAll prog 95 [] h (λv ms=>∃r:Rw,TabOK (some r) (jhz 256)/\v=uV (some r.sl)/\ms=[(i,rvC (r::R))]):=by
 have key:=qa8 (G:=tys) (h:=h) (vs:=[]) (λ_:Unit=>True) (λ_=>_) (α:=Rw) (λκ=>TabOK (some κ) (jhz 256)) (λκ=>uV (some κ.sl)) [⟨i,rvC R,rvC R,rvC R⟩] (λκ=>[rvC (κ::R)]) (λκ=>[]) [] tysOK mixed func95 Q8F (call95) ⟨hi,xb⟩ Q7e (λκ _=>Q7e) Q8K Q77 (λκ _=>trivial) xb Opens.same ?_
 .exact Q2G
 rintro⟨⟩ -
 repeat' (refine Ba ?_;first|refine Q4Z ?_|refine Q5T ?_|refine Q5U ?_|fail)
 refine Ba ?_
 refine Bq (α:=Nat×Option Rw) (λq=>q.1<=256/\TabOK q.2 (jhz q.1)) (λq=>256-q.1) (λq=>[(1,uV (rowO q.2)),(5,xc (q.1:Int))]) (λq=>[(0,rvC (rowL q.2 R))]) (0,none) [(0,0)] ⟨by decide,TabOK.nil⟩ ?_ ?_
 .exact Q1R
 rintro⟨k,oe⟩ ⟨hk,hoe⟩
 have hk:k<=256:=hk
 have hoe:TabOK oe (jhz k):=hoe
 by_cases hkl:k<256
 .refine Q0V ?_;refine Bo (α:=Nat) (λm=>m<=8) (λm=>8-m) (λm=>[(3,.int .u32 (jjg (IntKind.u32.wrap (k:Int)) m)),(10,xc (m:Int))]) (λm=>[]) 0 Q8I ?_ ?_
  .exact Q0B
  intro m hm;have hm:m<=8:=hm;by_cases hm8:m<8
  .exact Q28
  .obtain rfl:m=8:=by omega
   have ek:((k+1:Nat):Int)=IntKind.i64.wrap ((k:Int)+1):=by rw[jep _ Q8E Q8E];rfl
   refine Q0V ?_;refine jq1 oe R (jhz k) [_] 0 [_] hoe rfl rfl (λρ=>qbs _ ρ) Q8F Q8e (by rw[qov];show _+1<=_;omega) λoe' hoe'=>?_
   have hoe2:TabOK oe' (jhz (k+1)):=by
    unfold jhz;rw[List.range_succ,zd];exact hoe'
   refine Q0V ?_;refine Bk (α:=Nat×Option Rw) (k+1,oe') [(0,0)] ⟨⟨hkl,hoe2⟩,by show 256-(k+1)<256-k;omega⟩ ?_;exact Q1R
 .obtain rfl:k=256:=by omega
  cases oe with
  | none=>have:=hoe.n;rw[qov] at this;exact absurd this Q8I
  | some r=>
   repeat' (refine Ba ?_;first|refine Q4Z ?_|refine Q5U ?_|refine Bn ?_|refine Bt r ⟨hoe,?_⟩|refine Bc (.one .quo) ?_|refine Bc Q7j ?_|refine Q5c ?_|exact Be|fail)
abbrev xor8(a b:Int):Int:=IntKind.u8.wrap ((BitVec.ofInt IntKind.u8.bits a ^^^ BitVec.ofInt IntKind.u8.bits b).toNat:Int)
theorem qsu(a b:Int):0<=xor8 a b/\xor8 a b<256:=by
 unfold xor8;rw[wrap_u8];omega
def q0m(s c:Int):Int:=jfp (jgy s 8) (jim (xor8 (IntKind.u8.wrap s) c).toNat)
def sumK(bs:List Int)(k:Nat):Int:=(bs.take k).foldl q0m 4294967295
def sumN(bs:List Int):Int:=jfp 4294967295 (sumK bs bs.length)
theorem N.notU{x:Int}{K:Value->Prop}(h:K (.int .u32 (jfp 4294967295 x))):N (UnN prog .xor (.int .u32 x) K):=N.mk ⟨.int .u32 (jfp 4294967295 x),⟨rfl,rfl,λw=>by go_simp;rfl⟩,h⟩
theorem qlw{bs:List Int}{k:Nat}{c:Int}(h:bs[k]?=some c):sumK bs (k+1)=q0m (sumK bs k) c:=by
 grind[sumK,List.take_add_one]
theorem jdf(n m:Int)(w:World):xa 93 #[xc n,xc m] w (.bool (decide (0<=n/\n<=m))):=by
 refine qac (G:=tys) w tysOK mixed func93 Q8F Q8H Q8G ?_;exact Q0o
theorem jl0(n m:Int)(h:Hp):qae prog 93 [xc n,xc m] h (.bool (decide (0<=n/\n<=m))) [] []:=qai rfl rfl (call93 _) (jdf n m)
theorem q34(n:Int)(w:World):xa 92 #[xc n] w (.bool (decide (0<=n/\n<64))):=by
 refine qac (G:=tys) w tysOK mixed func92 Q8F Q8H Q8G ?_;exact Q0o
theorem qcs(n:Int)(h:Hp):qae prog 92 [xc n] h (.bool (decide (0<=n/\n<64))) [] []:=qai rfl rfl (call92 _) (q34 n)
theorem jq2{v:Value}{b:Bool}{p:Prop}[Decidable p](h:b=true↔p):Value.tuple #[v,.bool b]=.tuple #[v,.bool (decide p)]:=by
 by_cases hp:p
 .rw[h.2 hp,xf hp]
 .rw[xe hp];cases b with
  | false=>rfl
  | true=>exact absurd (h.1 rfl) hp
abbrev frF(k s b q st ds t1 t2 wh wn x y a c d:Int):Value:=.agg ⟨[xc k,xc s,xc b,xc q,xc st,xc ds,xc t1,xc t2,xc wh,xc wn,xc x,xc y,xc a,xc c,xc d]⟩
theorem q88(s b q st ds t1 t2 wh wn x y a c d:Int)(w:World):xa 91 #[frF 1 s b q st ds t1 t2 wh wn x y a c d] w (.tuple #[frF 1 s b q st ds t1 t2 wh wn x y a c d,.bool (decide (True))]):=Q09
theorem q89(s b q st ds t1 t2 wh wn x y a c d:Int)(w:World):xa 91 #[frF 7 s b q st ds t1 t2 wh wn x y a c d] w (.tuple #[frF 7 s b q st ds t1 t2 wh wn x y a c d,.bool (decide (True))]):=Q09
theorem q9a(s b q st ds t1 t2 wh wn x y a c d:Int)(w:World):xa 91 #[frF 2 s b q st ds t1 t2 wh wn x y a c d] w (.tuple #[frF 2 s b q st 0 t1 t2 wh wn x y a c d,.bool (decide ((0<=ds/\ds<64)/\ds≠s))]):=Q09
theorem q9b(s b q st ds t1 t2 wh wn x y a c d:Int)(w:World):xa 91 #[frF 3 s b q st ds t1 t2 wh wn x y a c d] w (.tuple #[frF 3 s b q st 0 0 t2 wh wn x y a c d,.bool (decide ((0<=ds/\ds<64)/\ds≠s/\(0<=t1/\t1<=4294967295)))]):=Q09
theorem q9c(s b q st ds t1 t2 wh wn x y a c d:Int)(w:World):xa 91 #[frF 4 s b q st ds t1 t2 wh wn x y a c d] w (.tuple #[frF 4 s b q st 0 0 0 wh 0 x y a c d,.bool (decide ((0<=ds/\ds<64)/\ds≠s/\(0<=t1/\t1<=70368744177664)/\(0<=t2/\t2<=70368744177664)/\(0<=wn/\wn<=4294967295)))]):=Q09
theorem q9d(s b q st ds t1 t2 wh wn x y a c d:Int)(w:World):xa 91 #[frF 5 s b q st ds t1 t2 wh wn x y a c d] w (.tuple #[frF 5 s b q st ds t1 t2 wh wn 0 0 0 0 0,.bool (decide (mayP x y a c d))]):=Q09
theorem q9e(s b q st ds t1 t2 wh wn x y a c d:Int)(w:World):xa 91 #[frF 6 s b q st ds t1 t2 wh wn x y a c d] w (.tuple #[frF 6 s b q st ds t1 t2 0 0 0 0 0 0 0,.bool (decide ((0<=wh/\wh<64)/\wh≠s/\(0<=wn/\wn<=st)/\mayP x y a c d))]):=Q09
theorem q35:∃ei,prog.info? 5=some ei/\ei.size=1/\ei.zero=some (.int .u8 0):=by
 obtain⟨ei,d,h1,h2,h3⟩:=qao tysOK (t:=5) (K:=λei _=>ei.size=1/\ei.zero=some (.int .u8 0)) ⟨rfl,rfl⟩;exact⟨ei,h1,h3⟩
def jky(k s b q st ds t1 t2 wh wn x y a c d:Int):List Int:=[97,108,105,49]++be k 1++be s 1++be ds 1++be wh 1++be b 2++be q 2++be st 8++be t1 8++be t2 8++be wn 8++be x 4++be y 4++be a 8++be c 8++be d 8
def jjh(k s b q st ds t1 t2 wh wn x y a c d:Int):List Int:=jky k s b q st ds t1 t2 wh wn x y a c d++be (IntKind.i64.wrap (sumN (jky k s b q st ds t1 t2 wh wn x y a c d))) 4
theorem qbd(n:Int)(w:Nat):(be n w).length=w:=qst n w w
def Fi(n:Int):Prop:=-9223372036854775808<=n/\n<=9223372036854775807
open Go Go.RowKit Sx
structure Frm where
 k:Int
 s:Int
 b:Int
 q:Int
 st:Int
 ds:Int
 t1:Int
 t2:Int
 wh:Int
 wn:Int
 x:Int
 y:Int
 a:Int
 c:Int
 d:Int
def Frm.o:Frm:=⟨0,0,0,0,0,0,0,0,0,0,0,0,0,0,0⟩
abbrev fmV(f:Frm):Value:=frF f.k f.s f.b f.q f.st f.ds f.t1 f.t2 f.wh f.wn f.x f.y f.a f.c f.d
def Frm.rest(f:Frm):Frm:=
 if f.k=2 then {f with ds:=0} else if f.k=3 then {f with ds:=0,t1:=0} else if f.k=4 then {f with ds:=0,t1:=0,t2:=0,wn:=0}
 else if f.k=5 then {f with x:=0,y:=0,a:=0,c:=0,d:=0} else if f.k=6 then {f with wh:=0,wn:=0,x:=0,y:=0,a:=0,c:=0,d:=0} else f
def Frm.own(f:Frm):Prop:=
 if f.k=1 then True else if f.k=7 then True else if f.k=2 then (0<=f.ds/\f.ds<64)/\f.ds≠f.s
 else if f.k=3 then (0<=f.ds/\f.ds<64)/\f.ds≠f.s/\(0<=f.t1/\f.t1<=4294967295)
 else if f.k=4 then (0<=f.ds/\f.ds<64)/\f.ds≠f.s/\(0<=f.t1/\f.t1<=70368744177664)/\(0<=f.t2/\f.t2<=70368744177664)/\(0<=f.wn/\f.wn<=4294967295)
 else if f.k=5 then mayP f.x f.y f.a f.c f.d
 else if f.k=6 then (0<=f.wh/\f.wh<64)/\f.wh≠f.s/\(0<=f.wn/\f.wn<=f.st)/\mayP f.x f.y f.a f.c f.d
 else False
instance decFrOwn(f:Frm):Decidable f.own:=by unfold Frm.own;infer_instance
def Frm.head(f:Frm):Prop:=(0<=f.s/\f.s<64)/\(0<=f.b/\f.b<=65535)/\(0<=f.q/\f.q<=65535)/\(0<=f.st/\f.st<=1000000)
def Frm.bare(f:Frm):Prop:=f.ds=0/\f.t1=0/\f.t2=0/\f.wh=0/\f.wn=0/\f.x=0/\f.y=0/\f.a=0/\f.c=0/\f.d=0
instance decFrHead(f:Frm):Decidable f.head:=by unfold Frm.head;infer_instance
instance decFrBare(f:Frm):Decidable f.bare:=by unfold Frm.bare;infer_instance
def Frm.may(f:Frm):Prop:=f.own/\f.head/\f.rest.bare
instance decFrMay(f:Frm):Decidable f.may:=by unfold Frm.may;infer_instance
theorem kN{a b:Int}(h:¬ a=b):(a==b)=false:=by simpa using h
theorem kY{a b:Int}(h:a=b):(a==b)=true:=by simpa using h
theorem q9f(f:Frm)(h1:¬ f.k=1)(h2:¬ f.k=2)(h3:¬ f.k=3)(h4:¬ f.k=4)(h5:¬ f.k=5)(h6:¬ f.k=6)(h7:¬ f.k=7)(w:World):xa 91 #[fmV f] w (.tuple #[fmV f,.bool (decide False)]):=by
 refine qac (G:=tys) w tysOK mixed func91 Q8F Q8F Q8F ?_;repeat' (refine Ba ?_;first|refine Q4Z ?_|refine Bf (kN h1) ?_|refine Bf (kN h2) ?_|refine Bf (kN h3) ?_|refine Bf (kN h4) ?_|refine Bf (kN h5) ?_|refine Bf (kN h6) ?_|refine Bf (kN h7) ?_|fail)
 all_goals rfl
theorem jdg(f:Frm)(w:World):xa 91 #[fmV f] w (.tuple #[fmV f.rest,.bool (decide f.own)]):=by
 obtain⟨k,s,b,q,st,ds,t1,t2,wh,wn,x,y,a,c,d⟩:=f;by_cases h1:k=1
 .subst h1;exact q88 s b q st ds t1 t2 wh wn x y a c d w
 by_cases h7:k=7
 .subst h7;exact q89 s b q st ds t1 t2 wh wn x y a c d w
 by_cases h2:k=2
 .subst h2;exact q9a s b q st ds t1 t2 wh wn x y a c d w
 by_cases h3:k=3
 .subst h3;exact q9b s b q st ds t1 t2 wh wn x y a c d w
 by_cases h4:k=4
 .subst h4;exact q9c s b q st ds t1 t2 wh wn x y a c d w
 by_cases h5:k=5
 .subst h5;exact q9d s b q st ds t1 t2 wh wn x y a c d w
 by_cases h6:k=6
 .subst h6;exact q9e s b q st ds t1 t2 wh wn x y a c d w
 have e1:Frm.rest ⟨k,s,b,q,st,ds,t1,t2,wh,wn,x,y,a,c,d⟩=⟨k,s,b,q,st,ds,t1,t2,wh,wn,x,y,a,c,d⟩:=by
  unfold Frm.rest;rw[if_neg h2,if_neg h3,if_neg h4,if_neg h5,if_neg h6]
 have e2:(decide (Frm.own ⟨k,s,b,q,st,ds,t1,t2,wh,wn,x,y,a,c,d⟩))=decide False:=by
  rw[xe (show ¬ Frm.own _ by unfold Frm.own;rw[if_neg h1,if_neg h7,if_neg h2,if_neg h3,if_neg h4,if_neg h5,if_neg h6];exact id),xe id]
 rw[e1,e2];exact q9f ⟨k,s,b,q,st,ds,t1,t2,wh,wn,x,y,a,c,d⟩ h1 h2 h3 h4 h5 h6 h7 w
theorem qgw(f:Frm)(h:Hp):qae prog 91 [fmV f] h (.tuple #[fmV f.rest,.bool (decide f.own)]) [] []:=
 qai rfl rfl (call91 _) (jdg f)
theorem q0n(f:Frm):f.rest.k=f.k/\f.rest.s=f.s/\f.rest.b=f.b/\f.rest.q=f.q/\f.rest.st=f.st:=by
 grind[Frm.rest]
theorem jow(r:Frm):(r.x==0&&(r.y==0&&(r.a==0&&(r.c==0&&r.d==0))))=decide (r.x=0/\r.y=0/\r.a=0/\r.c=0/\r.d=0):=by
 grind
theorem qgx(x y:Operand)(a b c d e p q r s t:Int):BinIs prog .eql 27 x y (.agg ⟨[xc a,xc b,xc c,xc d,xc e]⟩) (.agg ⟨[xc p,xc q,xc r,xc s,xc t]⟩) (.bool (a==p&&(b==q&&(c==r&&(d==s&&e==t))))):=
 Q7E
theorem q36(f:Frm)(w:World):xa 59 #[fmV f] w (.bool (decide f.may)):=by
 obtain⟨k1,k2,k3,k4,k5⟩:=q0n f;by_cases g_own:f.own;rotate_left
 .have n_own:=g_own;clear g_own;rw[xe (show ¬ f.may from λh=>n_own h.1)];exact Q03
 by_cases g_s:0<=f.s/\f.s<64;rotate_left
 .have n_s:=g_s;clear g_s;rw[xe (show ¬ f.may from λh=>n_s h.2.1.1)];exact Q03
 by_cases g_b:0<=f.b/\f.b<=65535;rotate_left
 .have n_b:=g_b;clear g_b;rw[xe (show ¬ f.may from λh=>n_b h.2.1.2.1)];exact Q03
 by_cases g_q:0<=f.q/\f.q<=65535;rotate_left
 .have n_q:=g_q;clear g_q;rw[xe (show ¬ f.may from λh=>n_q h.2.1.2.2.1)];exact Q03
 by_cases g_st:0<=f.st/\f.st<=1000000;rotate_left
 .have n_st:=g_st;clear g_st;rw[xe (show ¬ f.may from λh=>n_st h.2.1.2.2.2)];exact Q03
 by_cases g_ds:f.rest.ds=0;rotate_left
 .have n_ds:=g_ds;clear g_ds;rw[xe (show ¬ f.may from λh=>n_ds h.2.2.1)];exact Q03
 by_cases g_t1:f.rest.t1=0;rotate_left
 .have n_t1:=g_t1;clear g_t1;rw[xe (show ¬ f.may from λh=>n_t1 h.2.2.2.1)];exact Q03
 by_cases g_t2:f.rest.t2=0;rotate_left
 .have n_t2:=g_t2;clear g_t2;rw[xe (show ¬ f.may from λh=>n_t2 h.2.2.2.2.1)];exact Q03
 by_cases g_wh:f.rest.wh=0;rotate_left
 .have n_wh:=g_wh;clear g_wh;rw[xe (show ¬ f.may from λh=>n_wh h.2.2.2.2.2.1)];exact Q03
 by_cases g_wn:f.rest.wn=0;rotate_left
 .have n_wn:=g_wn;clear g_wn;rw[xe (show ¬ f.may from λh=>n_wn h.2.2.2.2.2.2.1)];exact Q03
 rw[show(decide f.may)=decide (f.rest.x=0/\f.rest.y=0/\f.rest.a=0/\f.rest.c=0/\f.rest.d=0) from decide_eq_decide.2 ⟨λh=>h.2.2.2.2.2.2.2,λh=>⟨g_own,⟨g_s,g_b,g_q,g_st⟩,g_ds,g_t1,g_t2,g_wh,g_wn,h⟩⟩,<-jow];exact Q03
theorem q0o(f:Frm)(h:Hp):qae prog 59 [fmV f] h (.bool (decide f.may)) [] []:=
 qai rfl rfl (call59 _) (q36 f)
theorem qf5:∀{ss:List jeo},(ss.map λs=>s.i).Nodup->Apart ss
 | [],_=>trivial
 | s::r,h=>by
  rw[xq,xH] at h;exact⟨λt ht _ e=>h.1 (by rw[e];exact xE.2 ⟨t,ht,rfl⟩),qf5 h.2⟩
structure Ou where
 f:Frm
 t:Int
def Ou.o:Ou:=⟨Frm.o,0⟩
abbrev ouV(x:Ou):Value:=outV x.f.k x.f.s x.f.b x.f.q x.f.st x.f.ds x.f.t1 x.f.t2 x.f.wh x.f.wn x.f.x x.f.y x.f.a x.f.c x.f.d x.t
def jfm(x:Ou):Nat->Value
 | 0=>.int .i64 x.f.k
 | 1=>.int .i64 x.f.s
 | 2=>.int .i64 x.f.b
 | 3=>.int .i64 x.f.q
 | 4=>.int .i64 x.f.st
 | 5=>.int .i64 x.f.ds
 | 6=>.int .i64 x.f.t1
 | 7=>.int .i64 x.f.t2
 | 8=>.int .i64 x.f.wh
 | 9=>.int .i64 x.f.wn
 | 10=>.int .i64 x.f.x
 | 11=>.int .i64 x.f.y
 | 12=>.int .i64 x.f.a
 | 13=>.int .i64 x.f.c
 | 14=>.int .i64 x.f.d
 | _=>.int .i64 x.t
theorem qj8(x:Ou)(k:Nat):qbi (jfm x k)=true:=by unfold jfm;split<;>rfl
theorem q0p(x:Ou){k:Nat}(h:k<16):cellIn (ouV x) k=jfm x k:=Q2Z
theorem qsv(j:Nat):jfj 16 (ouV Ou.o) j=jfm (Ou.o) (j%16):=by
 unfold jfj;have h:j%16<16:=xo _ Q8I;generalize j%16=k at h;exact Q2Z
abbrev ouC(o:Bool)(c:Nat)(T:Nat->Ou):Chunk:=⟨o,c*16,[(0,c*16,.agg ⟨segL (c*16) λj=>jfm (T (j / 16)) (j%16)⟩)]⟩
variable{c:Nat}
theorem jox{o:Bool}{j:Nat}{T:Nat->Ou}(h:j<c*16):(ouC o c T).f j=jfm (T (j / 16)) (j%16):=qbk h
theorem q58{o o':Bool}{T T':Nat->Ou}(h:∀i,i<c->T i=T' i):qbh ix (ouC o c T) (ouC o' c T'):=λj hj=>by
 have hj:j<c*16:=hj;rw[qbk hj,qbk hj,h (j / 16) Q8E];exact .plain (qj8 _ _)
variable{hp:Hp}
theorem q37{T T':Nat->Ou}(h:∀i,i<c->T i=T' i)(hh:hp[n]?=some (some (ouC true c T'))):PostC ix hp n (ouC true c T):=⟨_,hh,id,nlr _,q58 h⟩
def jhe(T:Nat->Ou)(l:Nat)(x:Ou)(i:Nat):Ou:=if i<l then T i else if i=l then x else Ou.o
variable{cap:Nat}
theorem q38{ci:Chunk}{l:Nat}{T:Nat->Ou}{x:Ou}(h:l<cap)(hc:∀j,j<l*16->ci.f j=jfm (T (j / 16)) (j%16)){j:Nat}(hj:j<cap*16):(grown ci l 1 16 (ouV x) (ouV Ou.o) cap).f j=jfm (jhe T l x (j / 16)) (j%16):=by
 unfold jhe;by_cases h1:j<l*16
 .grind[qid]
 .rw[if_neg Q8E];by_cases h2:j<(l+1)*16
  .have:=qie (ci:=ci) (l:=l) (m:=1) (size:=16) (cap:=cap) (v:=ouV x) (z:=ouV Ou.o) (j:=j-l*16) Q8E
   grind[q0p]
  grind[qg3,qsv]
theorem qrf{ci:Chunk}{l:Nat}{T:Nat->Ou}{x:Ou}(h:l<cap)(hc:∀j,j<l*16->ci.f j=jfm (T (j / 16)) (j%16))(hh:hp[n]?=some (some (grown ci l 1 16 (ouV x) (ouV Ou.o) cap))):PostC ix hp n (ouC true cap (jhe T l x)):=
 ⟨_,hh,λ_=>rfl,by show cap*16<=cap*16;omega,λj hj=>by
  have hj:j<cap*16:=hj;rw[qbk hj,q38 h hc hj];exact .plain (qj8 _ _)⟩
abbrev ouR(S:List Ou)(c:Nat):Chunk:=ouC true c (λi=>S.getD i Ou.o)
variable{S:List Ou}
theorem qu6(hh:hp[n]?=some (some (ouR S c))):PostC ix hp n (ouR S c):=q37 (λ_ _=>rfl) hh
theorem q0q{x:Ou}(h:0<cap)(hh:hp[n]?=some (some (grown ⟨true,0,[]⟩ 0 1 16 (ouV x) (ouV Ou.o) cap))):PostC ix hp n (ouR [x] cap):=by
 have:=qrf (ix:=ix) (l:=0) h (T:=λi=>([]:List Ou).getD i Ou.o) (λj hj=>absurd hj Q8E) hh
 grind[jhe]
theorem qa3:qbh ix (ouR S c) (ouR S c):=q58 λ_ _=>rfl
theorem q39{h:Hp}{j:Nat}(hj:j<c*16):Safe1 h ((ouR S c).f j):=by
 rw[jox hj];generalize (S.getD (j / 16) Ou.o)=x;generalize j%16=k;unfold jfm;split<;>trivial
def Frm.by(f:Frm)(D:NdS)(now:Int):Frm:={f with s:=D.id,b:=D.boot,q:=D.seq,st:=now}
theorem q0r(D:NdS)(f:Frm)(now fine:Int)(n l:Int)(hl:0<l/\l<1000)(hs:0<=D.seq/\D.seq<65535)(hb:0<=D.boot/\D.boot<=65535)(i0 i1 i2 i3 i4 i5 K:Nat)(h:Hp)(cf ct cm:Chunk)(h0:h[i0]?=some (some (sdC i1 now fine (.slice none 0 0))))(h1:h[i1]?=some (some (ndC D i2 i3 i4 i5)))(h2:h[i2]?=some (some cf))(h3:h[i3]?=some (some ct))(h4:h[i4]?=some (some (twC n l)))(h5:h[i5]?=some (some cm))(hK:h[K]?=some none)(hne:[i0,i1,i2,i3,i4,i5].Nodup):
  CallAll prog 40 [xd i0,fmV f] h (λv ms=>∃κ:Nat,1<=κ/\v=.tuple ⟨[xc (D.boot*65536+D.seq),.bool true]⟩/\ms=[(i0,sdC i1 now fine (.slice (some ⟨K,0,some 0⟩) 1 κ)),(i1,ndC {D with seq:=D.seq+1} i2 i3 i4 i5),(i4,twC n (l-1)),(K,ouR [⟨f.by D now,fine⟩] κ)]):=by
 have key:=qa8 (G:=tys) (h:=h) (vs:=[xd i0,fmV f]) (λ_:Unit=>True) (λ_=>_) (α:=Nat) (λκ=>1<=κ) (λκ=>.tuple ⟨[.int .i64 (D.boot*65536+D.seq),.bool true]⟩) [⟨i0,_,sdC 1 now fine (.slice none 0 0),noC⟩,⟨i1,_,ndC D 2 3 4 5,noC⟩,⟨i2,_,noC,noC⟩,⟨i3,_,noC,noC⟩,⟨i4,_,twC n l,noC⟩,⟨i5,_,noC,noC⟩]
  (λκ=>[sdC i1 now fine (.slice (some ⟨K,0,some 0⟩) 1 κ),ndC {D with seq:=D.seq+1} i2 i3 i4 i5,noC,noC,twC n (l-1),noC]) (λκ=>[⟨K,8,ouR [⟨f.by D now,fine⟩] κ⟩]) [xd 0,fmV f] tysOK mixed func40 Q8F (call40) ⟨h0,h1,h2,h3,h4,h5,xb⟩ ?_ ?_ ?_ Q8A ?_ ?_ Opens.same ?_
 rotate_left
 .exact Q2f
 .exact Q2m
 .exact qf5 hne
 .exact λκ hκ=>Q8u
 .exact⟨.ptr Q8F,.plain rfl,xb⟩
 .rintro⟨⟩ -;refine Q3I ?_;refine App0N.mk2 (ouV ⟨f.by D now,fine⟩) Q8n Q8I Q8I Q8I λκ hκ=>?_
  refine Q2T ?_;refine Bc ⟨⟨x7 rfl,q0q Q8E rfl⟩,xb⟩ ?_;refine Bc ⟨Q7U,.inl rfl,xb⟩ ?_;exact Be
 .exact qax key λv ms hR=>Q3F
open Go Go.RowKit Sx
structure NxS where
 least:Int
 next:Int
 any:Bool
 behind:Bool
def NxS.step(after:Int)(s:NxS)(n:Int):NxS:=
 let a:NxS:=if s.any=false\/n<s.least then ⟨n,s.next,true,s.behind⟩ else s
 if after<n/\(a.behind=false\/n<a.next) then ⟨a.least,n,a.any,true⟩ else a
def nxF(after:Int)(l:List Int):NxS:=l.foldl (NxS.step after) ⟨0,0,false,false⟩
def jl1(after:Int)(l:List Int):Int×Bool:=if (nxF after l).behind then ((nxF after l).next,true) else ((nxF after l).least,(nxF after l).any)
abbrev jko(o:Bool)(E:Ez)(cap:Nat):Chunk:=enC o cap (λi=>if i<E.length then entT E i else Ent.zero)
theorem qa2{o o':Bool}{E:Ez}:qbh ix (jko o E cap) (jko o' E cap):=qj0 λ_ _=>rfl
def jp7(E:Ez)(p:Ent->Bool):List Int:=evL E p E.length
def idOK(E:Ez)(p:Ent->Bool):EvS->Prop
 | .no r=>r<=E.length/\evL E p r=[]
 | .yes r c=>r<=E.length/\0<(evL E p r).length/\(evL E p r).length<=c
@[reducible] def teSet(E:Ez)(p:Ent->Bool):EvS->Vz
 | .no r=>[(11,.int .i64 (r:Int)),(6,.slice none 0 0)]
 | .yes r c=>[(11,.int .i64 (r:Int)),(6,.slice (some ⟨1,0,some 0⟩) (evL E p r).length c)]
@[reducible] def teHs(E:Ez)(p:Ent->Bool):EvS->Mz
 | .no r=>[]
 | .yes r c=>[(1,rl (evL E p r) c)]
open Go Go.RowKit Sx
theorem jq3(n a b:Int)(w:World):xa 193 #[xc n,xc a,xc b] w (.bool (decide (a<=n/\n<=b))):=by
 refine qac (G:=tys) w tysOK mixed func193 Q8F Q8H Q8G ?_;repeat' (refine Ba ?_;first|refine Q4Z ?_|with_reducible refine Bi (λhb=>?_) (λhb=>?_)|fail)
 all_goals
  congr 1
  simp only[xh,xj,yb] at hb
  simp[hb]
theorem cIn(n a b:Int)(h:Hp):qae prog 193 [xc n,xc a,xc b] h (.bool (decide (a<=n/\n<=b))) [] []:=
 qai rfl rfl (call193 _) (jq3 n a b)
def q59(drift off g:Int):Prop:=(-1000<=drift/\drift<=1000)/\(0<=off/\off<=70368744177664)/\(0<=g/\g<=70368744177664)
instance(a b c:Int):Decidable (q59 a b c):=by unfold q59;infer_instance
theorem mdv(a b c:Int)(h:Hp)(ha : -9223372036854775808<=a)(ha':a<9223372036854775808)(hb : -9223372036854775808<=b)(hb':b<9223372036854775808)(hc:0<c)(hcc:c<9223372036854775808)(q:Int)(hq:a*b / c=q)(q1 : -9223372036854775808<=q)(q2:q<9223372036854775808):qae prog 171 [xc a,xc b,xc c] h (.tuple #[xc q,xc 0]) [] []:=by
 obtain⟨n,rfl⟩:=yL (by omega:0<=c);have:=qsp a b n h ha ha' hb hb' Q8E Q8E;exact Q4n
theorem jp8(a b c:Int)(h:Hp)(ha : -9223372036854775808<=a)(ha':a<9223372036854775808)(hb : -9223372036854775808<=b)(hb':b<9223372036854775808)(hc:0<c)(hcc:c<9223372036854775808)(q:Int)(hq : -(-(a*b) / c)=q)(q1 : -9223372036854775808<=q)(q2:q<9223372036854775808):qae prog 172 [xc a,xc b,xc c] h (.tuple #[xc q,xc 0]) [] []:=by
 obtain⟨n,rfl⟩:=yL (by omega:0<=c);have:=qlo a b n h ha ha' hb hb' Q8E Q8E;exact Q4n
theorem jfe(n:Int)(h1 : -9223372036854775808<=n)(h2:n<9223372036854775808):IntKind.i64.wrap n=n:=by rw[xw];omega
theorem q9g{a c:Int}(k:Int)(h0:0<=a)(hc:0<c)(h:a<=k*c):0<=a / c/\a / c<=k:=
 ⟨Int.ediv_nonneg h0 Q8E,by
  have:=Int.ediv_le_ediv hc h;rwa[Int.mul_ediv_cancel _ Q8E] at this⟩
def jgg(d x:Int):Int:=max 0 (d-1)*1000000 / (1000000+x)
def jgh(d x:Int):Int:=-(-((d+1)*1000000) / (1000000-x))
theorem q4a{a c k:Int}(h0:0<=a)(hc:0<c)(h:a<=k*c):0<=-(-a / c)/\-(-a / c)<=k:=by
 have h1 : -k<=-a / c:=Int.le_ediv_of_mul_le hc (by rw[Int.neg_mul];omega);have h2 : -a / c<=0:=by
  have:=Int.ediv_le_ediv hc (by omega : -a<=0);rwa[Int.zero_ediv] at this
 omega
theorem qlx(d x:Int)(hd:0<=d/\d<=70368744177664)(hx:0<=x/\x<=1000):0<=jgg d x/\jgg d x<=70368744177664:=by
 unfold jgg;exact q9g _ (x9 Q8E Q8E) Q8E (yC Q8E Q8E Q8E Q8E)
theorem qly(d x:Int)(hd:0<=d/\d<=70368744177664)(hx:0<=x/\x<=1000):0<=jgh d x/\jgh d x<=140737488355330:=by
 unfold jgh;exact q4a (x9 Q8E Q8E) Q8E Q8E
theorem joy(d x:Int)(h:Hp)(hd:0<=d/\d<=70368744177664)(hx:0<=x/\x<=1000):qae prog 171 [xc (max 0 (IntKind.i64.wrap (d-1))),xc 1000000,xc (IntKind.i64.wrap (1000000+x))] h (.tuple #[xc (jgg d x),xc 0]) [] []:=by
 rw[jfe (1000000+x) Q8E Q8E,jfe (d-1) Q8E Q8E];have:=qlx d x hd hx;exact mdv _ _ _ _ Q8E Q8E Q8E Q8E Q8E Q8E _ rfl Q8E Q8E
theorem joz(d x:Int)(h:Hp)(hd:0<=d/\d<=70368744177664)(hx:0<=x/\x<=1000):qae prog 172 [xc (IntKind.i64.wrap (d+1)),xc 1000000,xc (IntKind.i64.wrap (1000000-x))] h (.tuple #[xc (jgh d x),xc 0]) [] []:=by
 rw[jfe (1000000-x) Q8E Q8E,jfe (d+1) Q8E Q8E];have:=qly d x hd hx;exact jp8 _ _ _ _ Q8E Q8E Q8E Q8E Q8E Q8E _ rfl Q8E Q8E
def qd7(d x:Int):Prop:=(0<=d/\d<=70368744177664)/\(0<=x/\x<=1000)
instance(a b:Int):Decidable (qd7 a b):=by unfold qd7;infer_instance
def jgz(d x:Int):Value:=.tuple #[xc (if qd7 d x then jgg d x else 0),xc (if qd7 d x then jgh d x else 0),xc (if qd7 d x then 0 else 1)]
theorem jdh(d x:Int)(w:World):xa 169 #[xc d,xc x] w (jgz d x):=by
 refine qac (G:=tys) w tysOK mixed func169 Q8F Q8H Q8G ?_;repeat' (refine Ba ?_;first|refine Q4Z ?_|with_reducible (first|refine Bb (cIn _ _ _ _) ?_|refine Bb (joy _ _ _ Q93 Q93) ?_|refine Bb (joz _ _ _ Q93 Q93) ?_)|refine Q63 ?_|refine Q5d ?_|with_reducible refine Bi (λhb=>?_) (λhb=>?_)|fail)
 all_goals simp only[zw,y8,xh,xj] at *
 .unfold jgz;rw[if_neg (λh=>hb h.1),if_neg (λh=>hb h.1),if_neg (λh=>hb h.1)]
 .unfold jgz;rw[if_neg (λh=>hb h.2),if_neg (λh=>hb h.2),if_neg (λh=>hb h.2)]
 .rename_i h1;have ho:qd7 d x:=⟨h1,hb⟩;unfold jgz;rw[if_pos ho,if_pos ho,if_pos ho]
theorem jl2(a b:Int)(h:Hp):qae prog 169 [xc a,xc b] h (jgz a b) [] []:=
 qai rfl rfl (call169 _) (jdh a b)
theorem q4b{d x:Int}(h:qd7 d x):jgz d x=.tuple #[xc (jgg d x),xc (jgh d x),xc 0]:=by unfold jgz;rw[if_pos h,if_pos h,if_pos h]
theorem qrg(a b:Int)(h:Hp)(ho:qd7 a b):qae prog 169 [xc a,xc b] h (.tuple #[xc (jgg a b),xc (jgh a b),xc 0]) [] []:=by
 rw[<-q4b ho];exact jl2 a b h
open Go Go.RowKit Sx
theorem q4c(p q r s:Int)(w:World):xa 170 #[.agg #[xc p,xc q],.agg #[xc r,xc s]] w (.agg #[xc (IntKind.i64.wrap (p-s)),xc (IntKind.i64.wrap (q-r))]):=by
 refine qac (G:=tys) w tysOK mixed func170 Q8F Q8H Q8G ?_;repeat' (refine Ba ?_;first|refine Q55 ?_|refine Q51 ?_|fail)
 all_goals rfl
theorem jdi(p q r s:Int)(h:Hp):qae prog 170 [.agg #[xc p,xc q],.agg #[xc r,xc s]] h (.agg #[xc (IntKind.i64.wrap (p-s)),xc (IntKind.i64.wrap (q-r))]) [] []:=
 qai rfl rfl (call170 _) (q4c p q r s)
theorem jdj(n:Int)(h:Hp)(h1 : -4611686018427387904<=n)(h2:n<=4611686018427387904):qae prog 171 [xc n,xc 1,xc 2] h (.tuple #[xc (n / 2),xc 0]) [] []:=
 mdv _ _ _ _ Q8E Q8E Q8E Q8E Q8E Q8E _ (by rw[Int.mul_one]) Q8E Q8E
theorem q4d(n:Int)(h:Hp)(h1 : -4611686018427387904<=n)(h2:n<=4611686018427387904):qae prog 172 [xc n,xc 1,xc 2] h (.tuple #[xc (-(-n / 2)),xc 0]) [] []:=
 jp8 _ _ _ _ Q8E Q8E Q8E Q8E Q8E Q8E _ (by rw[Int.mul_one]) Q8E Q8E
theorem qlz(a b:Int)(h:Hp)(ho:¬ qd7 a b):qae prog 169 [xc a,xc b] h (.tuple #[xc 0,xc 0,xc 1]) [] []:=by
 have:=jl2 a b h;unfold jgz at this;rwa[if_neg ho,if_neg ho,if_neg ho] at this
def jl3(ra db da rb dr sl:Int):Prop:=(0<=sl/\sl<=4194304)/\qd7 ra dr/\qd7 db dr/\qd7 rb dr/\qd7 da dr
instance(ra db da rb dr sl:Int):Decidable (jl3 ra db da rb dr sl):=by unfold jl3;infer_instance
def jjr(ra db da rb dr sl:Int):Int:=max 0 (max (jgg ra dr-jgh db dr) (jgg rb dr-jgh da dr) / 2-sl)
def jjs(ra db da rb dr sl:Int):Int:=-(-min (jgh ra dr-jgg db dr) (jgh rb dr-jgg da dr) / 2)+1+sl
def rgE(ra db da rb dr sl:Int):Int:=if jl3 ra db da rb dr sl then (if jjs ra db da rb dr sl<jjr ra db da rb dr sl then 3 else if jjs ra db da rb dr sl > 4194304 then 2 else 0) else 1
def rgV(ra db da rb dr sl:Int):Value:=.tuple #[xc (if rgE ra db da rb dr sl=0 then jjr ra db da rb dr sl else 0),xc (if rgE ra db da rb dr sl=0 then jjs ra db da rb dr sl else 0),xc (rgE ra db da rb dr sl)]
theorem qgy{ra db da rb dr sl:Int}(h:¬ jl3 ra db da rb dr sl):Value.tuple ⟨[xc 0,xc 0,xc 1]⟩=rgV ra db da rb dr sl:=by
 have:rgE ra db da rb dr sl=1:=by unfold rgE;rw[if_neg h]
 unfold rgV;rw[this];rfl
theorem q0s(ra db da rb dr sl:Int)(w:World):xa 147 #[.agg #[xc ra,xc db,xc da,xc rb],xc dr,xc sl] w (rgV ra db da rb dr sl):=by
 refine qac (G:=tys) w tysOK mixed func147 Q8F Q8H Q8G ?_;repeat' (refine Ba ?_;first|refine Q55 ?_|refine Q51 ?_|with_reducible refine Bi (λhb=>?_) (λhb=>?_)|fail)
 .exact qgy (λh=>by have:=h.2.1.2;simp at hb;omega)
 .exact qgy (λh=>by have:=h.2.1.2;simp at hb;omega)
 .exact qgy (λh=>by have:=h.1;simp at hb;omega)
 .exact qgy (λh=>by have:=h.1;simp at hb;omega)
 .simp only[xh,xj] at *;rename_i g1 g2 g3;by_cases h0:qd7 ra dr
  .skip;by_cases h1:qd7 db dr
   .skip;by_cases h2:qd7 rb dr
    .skip;by_cases h3:qd7 da dr
     .skip;have s1:=qlx ra dr h0.1 h0.2;have s2:=qly ra dr h0.1 h0.2;have s3:=qlx db dr h1.1 h1.2;have s4:=qly db dr h1.1 h1.2;have s5:=qlx rb dr h2.1 h2.2;have s6:=qly rb dr h2.1 h2.2;have s7:=qlx da dr h3.1 h3.2;have s8:=qly da dr h3.1 h3.2;repeat' (refine Ba ?_;first|refine Q55 ?_|refine Q51 ?_|refine Bp 5 ?_|refine Q62 ?_|refine Q5r ?_|refine Q6X ?_|refine Q63 ?_|with_reducible (first|refine Bb (jdi _ _ _ _ _) ?_|refine Bb (jdj _ _ Q9o Q9o) ?_|refine Bb (q4d _ _ Q9o Q9o) ?_)|refine Q5d ?_|refine Q5m ?_|with_reducible refine Bi (λhb=>?_) (λhb=>?_)|fail)
      all_goals have ho:jl3 ra db da rb dr sl:=⟨⟨by omega,by omega⟩,h0,h1,h2,h3⟩
      all_goals have w1:=jfe (jgh ra dr-jgg db dr) Q8E Q8E
      all_goals have w2:=jfe (jgh rb dr-jgg da dr) Q8E Q8E
      all_goals have w3:=jfe (jgg ra dr-jgh db dr) Q8E Q8E
      all_goals have w4:=jfe (jgg rb dr-jgh da dr) Q8E Q8E
      all_goals have eLo:max 0 (IntKind.i64.wrap (max (IntKind.i64.wrap (jgg ra dr-jgh db dr)) (IntKind.i64.wrap (jgg rb dr-jgh da dr)) / 2-sl))=jjr ra db da rb dr sl:=by rw[w3,w4,jfe _ Q8E Q8E];rfl
      all_goals have eHi:IntKind.i64.wrap (IntKind.i64.wrap (-(-min (IntKind.i64.wrap (jgh ra dr-jgg db dr)) (IntKind.i64.wrap (jgh rb dr-jgg da dr)) / 2)+1)+sl)=jjs ra db da rb dr sl:=by rw[w1,w2,jfe (-(-min (jgh ra dr-jgg db dr) (jgh rb dr-jgg da dr) / 2)+1) Q8E Q8E,jfe _ Q8E Q8E];rfl
      all_goals rw[eHi] at hb
      .rw[eLo,xh] at hb;have e:rgE ra db da rb dr sl=3:=by unfold rgE;rw[if_pos ho,if_pos hb]
       unfold rgV;rw[e];rfl
      .rename_i k;rw[eHi,eLo,xj] at k;rw[xh] at hb;have e:rgE ra db da rb dr sl=2:=by unfold rgE;rw[if_pos ho,if_neg k,if_pos hb]
       unfold rgV;rw[e];rfl
      .rename_i k;rw[eHi,eLo,xj] at k;rw[xj] at hb;have e:rgE ra db da rb dr sl=0:=by unfold rgE;rw[if_pos ho,if_neg k,if_neg hb]
       rw[eLo,eHi];unfold rgV;rw[e];rfl
     .refine Q0D ?_;exact qgy (λh=>h3 h.2.2.2.2)
    .refine Q0D ?_;exact qgy (λh=>h2 h.2.2.2.1)
   .refine Q0D ?_;exact qgy (λh=>h1 h.2.2.1)
  .refine Q0D ?_;exact qgy (λh=>h0 h.2.1)
theorem q6a(ra db da rb dr sl:Int)(h:Hp):qae prog 147 [.agg #[xc ra,xc db,xc da,xc rb],xc dr,xc sl] h (rgV ra db da rb dr sl) [] []:=
 qai rfl rfl (call147 _) (q0s ra db da rb dr sl)
structure jo0(c:Chunk)(i:Nat)(now fine:Int):Prop where
 n:3<=c.n
 f:∀j,j<3->c.f j=(sdV i now fine).f j
theorem jdk(i:Nat)(now fine:Int)(o:Value):jo0 (sdC i now fine o) i now fine:=⟨x7 rfl,lt3 rfl rfl rfl⟩
variable{fine:Int}
theorem jdl{c:Chunk}{i i':Nat}{now:Int}(h:jo0 c i now fine)(hi:ixK ix i'=some i):qbh ix c (sdV i' now fine):=λj hj=>by
 have hj:j<3:=hj;rw[h.f j hj];exact lt3 (p:=λj=>Re1 ix ((sdV i now fine).f j) ((sdV i' now fine).f j)) (.ptr hi) (.plain rfl) (.plain rfl) j hj
abbrev hdV(f:Frm)(at_:Int)(i:Nat):Value:=.agg ⟨[xc f.k,xc f.s,xc f.b,xc f.q,xc f.st,xc f.ds,xc f.t1,xc f.t2,xc f.wh,xc f.wn,xc f.x,xc f.y,xc f.a,xc f.c,xc f.d,xc at_,xd i]⟩
abbrev Frm.el(f:Frm):El:=⟨f.x,f.y,f.a,f.c,f.d⟩
def qby(D:NdS)(F:Flr)(T:Tbl)(f:Frm)(now:Int):Flr×Tbl:=
 if f.wh=D.id then (if (qcu f.el f.wn now (D.C 2) (D.C 4)).2=0 then F.meet (qcu f.el f.wn now (D.C 2) (D.C 4)).1 else F,T)
 else (F,match dGet T.E f.wh with|some _=>jhy D.C T f.wh f.el f.wn now|none=>T)
def qja(D:NdS)(stamp now:Int):Int:=2*D.C 2*qfq stamp now (D.C 4)
def qc1(D:NdS)(F:Flr)(T:Tbl)(k ra db da rb stamp now:Int):Flr:=
 if (qdj D.C T k now).2=true/\qja D stamp now<=4194304/\rgE ra db da rb (D.C 5) (qja D stamp now)=0 then F.range (qdj D.C T k now).1 (jjr ra db da rb (D.C 5) (qja D stamp now)) (jjs ra db da rb (D.C 5) (qja D stamp now)) else F
theorem q4e(w now k:Int):qfq w now k<=3000001:=by
 unfold qfq;split
 .rename_i h;have a1:=h.1.1;have a2:=h.2.1.2;have a3:=h.2.2.2;have a4:=h.2.2.1;omega
 .omega
variable{D:NdS}
theorem qwm(hC:0<=D.C 2/\D.C 2<=1000)(stamp now:Int):IntKind.i64.wrap (IntKind.i64.wrap (2*D.C 2)*qfq stamp now (D.C 4))=qja D stamp now:=by
 have h1:=qrb stamp now (D.C 4);have h2:=q4e stamp now (D.C 4);have h3:2*D.C 2*qfq stamp now (D.C 4)<=2000*3000001:=yC Q8E h2 h1 Q8I;have h4:0<=2*D.C 2*qfq stamp now (D.C 4):=x9 Q8E h1;rw[jep (2*D.C 2) Q8E Q8E,jep _ Q8E Q8E];rfl
theorem jdm{ra db da rb dr sl:Int}(h:rgE ra db da rb dr sl=0):jg4 (jjr ra db da rb dr sl) (jjs ra db da rb dr sl):=by
 unfold rgE at h;split at h
 .split at h
  .omega
  .split at h
   .omega
   .exact⟨by unfold jjr;omega,by omega,by omega⟩
 omega
theorem q9h(ra db da rb dr sl sl':Int)(h:Hp)(e:sl'=sl)(ho:rgE ra db da rb dr sl=0):qae prog 147 [.agg #[xc ra,xc db,xc da,xc rb],xc dr,xc sl'] h (.tuple #[xc (jjr ra db da rb dr sl),xc (jjs ra db da rb dr sl),xc 0]) [] []:=by
 subst e;have:=q6a ra db da rb dr sl' h;unfold rgV at this;rw[if_pos ho,if_pos ho,ho] at this;exact this
theorem q9i(ra db da rb dr sl sl':Int)(h:Hp)(e:sl'=sl)(ho:¬ rgE ra db da rb dr sl=0):qae prog 147 [.agg #[xc ra,xc db,xc da,xc rb],xc dr,xc sl'] h (.tuple #[xc 0,xc 0,xc (rgE ra db da rb dr sl)]) [] []:=by
 subst e;have:=q6a ra db da rb dr sl' h;unfold rgV at this;rw[if_neg ho,if_neg ho] at this;exact this
theorem qwn(D:NdS)(F:Flr)(T:Tbl)(c0 c1:Chunk)(f:Frm)(at_ now fine:Int)(hF:F.valid=true->F.e.may)(hw:0<=f.wh/\f.wh<64)(i0 i1 i2 i3:Nat)(hs:jo0 c0 i1 now fine)(hc:jje c1 D i2 i3)(h:Hp)(h0:h[i0]?=some (some c0))(h1:h[i1]?=some (some c1))(h2:h[i2]?=some (some (fiF F)))(h3:h[i3]?=some (some (tblC T)))(hne:[i0,i1,i2,i3].Nodup):
  qae prog 86 [xd i1,hdV f at_ i0] h (.tuple #[]) [(i2,fiF (qby D F T f now).1),(i3,tblC (qby D F T f now).2)] [i0,i1]:=by
 refine qaq (G:=tys) (h:=h) (vs:=[xd i1,hdV f at_ i0]) (λ_:Unit=>True) (λ_=>_) [⟨i0,_,sdV 1 now fine,noC⟩,⟨i1,_,ndV D 2 3,noC⟩,⟨i2,fiF F,fiF F,fiF (qby D F T f now).1⟩,⟨i3,tblC T,tblC T,tblC (qby D F T f now).2⟩] [] [xd 1,hdV f at_ 0] tysOK mixed func86 Q8F (call86) ⟨h0,h1,h2,h3,xb⟩
  ⟨⟨λh=>Q94,hs.n,jdl hs Q8F⟩,Q7T,Q7A,Q74,xb⟩ (by
   simp only[xH,xi,xD,not_or,xy,or_false,and_true] at hne;simp[Apart];omega) ⟨.inl rfl,.inl rfl,.inl rfl,.inr ⟨rfl,rfl⟩,xb⟩ xb ⟨.ptr Q8F,.agg ⟨.plain rfl,.plain rfl,.plain rfl,.plain rfl,.plain rfl,.plain rfl,.plain rfl,.plain rfl,.plain rfl,.plain rfl,.plain rfl,.plain rfl,.plain rfl,.plain rfl,.plain rfl,.plain rfl,.ptr Q8F,xb⟩,xb⟩ Opens.same ?_
 rintro⟨⟩ -
 by_cases hid:f.wh=D.id
 .by_cases hz:(qcu f.el f.wn now (D.C 2) (D.C 4)).2=0
  .have hz2:=qrc hz;rw[show qby D F T f now=(F.meet (qcu f.el f.wn now (D.C 2) (D.C 4)).1,T) by unfold qby;rw[if_pos hid,if_pos hz]];repeat' (refine Ba ?_;first|refine Q4Z ?_|refine Bg (ei hid) ?_|refine Bb (jjf D 2 3 _ (qj6 D 2 3) f.el f.wn now 1 _ Q8F) ?_|refine Bg (ei hz) ?_|refine Bb (q81 F _ hF hz2.2 2 _ Q8F) ?_|fail)
   exact Q2A
  .rw[show qby D F T f now=(F,T) by unfold qby;rw[if_pos hid,if_neg hz]];repeat' (refine Ba ?_;first|refine Q4Z ?_|refine Bg (ei hid) ?_|refine Bb (jjf D 2 3 _ (qj6 D 2 3) f.el f.wn now 1 _ Q8F) ?_|refine Bf (en hz) ?_|fail)
   exact Q2A
 .cases hd:dGet T.E f.wh with
  | none=>
   rw[show qby D F T f now=(F,T) by unfold qby;rw[if_neg hid,hd]];repeat' (refine Ba ?_;first|refine Q4Z ?_|refine Bf (en hid) ?_|refine Bb (jli T f.wh hd 3 _ Q8F) ?_|fail)
   exact Q2A
  | some e=>
   rw[show qby D F T f now=(F,jhy D.C T f.wh f.el f.wn now) by unfold qby;rw[if_neg hid,hd]];repeat' (refine Ba ?_;first|refine Q4Z ?_|refine Bf (en hid) ?_|refine Bb (jlh T f.wh e hd 3 _ Q8F) ?_|refine Bb (q57 D T _ _ f.wh f.el f.wn now Q8E 1 2 3 (qj6 D 2 3) _ Q8F Q8F Q8F Q8I) ?_|fail)
   exact Q2A
theorem qsw(D:NdS)(F:Flr)(T:Tbl)(c1:Chunk)(k ra db da rb stamp now:Int)(hF:F.valid=true->F.e.may)(hC:0<=D.C 2/\D.C 2<=1000)(i1 i2 i3:Nat)(hc:jje c1 D i2 i3)(h:Hp)(h1:h[i1]?=some (some c1))(h2:h[i2]?=some (some (fiF F)))(h3:h[i3]?=some (some (tblC T)))(hne:[i1,i2,i3].Nodup):
  qae prog 126 [xd i1,xc k,.agg #[xc ra,xc db,xc da,xc rb],xc stamp,xc now] h (.tuple #[]) [(i2,fiF (qc1 D F T k ra db da rb stamp now)),(i3,tblC T)] [i1]:=by
 refine qaq (G:=tys) (h:=h) (vs:=[xd i1,xc k,.agg #[xc ra,xc db,xc da,xc rb],xc stamp,xc now]) (λ_:Unit=>True) (λ_=>_) [⟨i1,_,ndV D 1 2,noC⟩,⟨i2,fiF F,fiF F,fiF (qc1 D F T k ra db da rb stamp now)⟩,⟨i3,tblC T,tblC T,tblC T⟩] [] [xd 0,xc k,.agg #[xc ra,xc db,xc da,xc rb],xc stamp,xc now] tysOK mixed func126 Q8F (call126) ⟨h1,h2,h3,xb⟩
  ⟨Q7T,Q7A,Q74,xb⟩ (by
   simp only[xH,xi,xD,not_or,xy,or_false,and_true] at hne;simp[Apart];omega) ⟨.inl rfl,.inl rfl,.inr ⟨rfl,rfl⟩,xb⟩ xb ⟨.ptr Q8F,.plain rfl,.plain rfl,.plain rfl,.plain rfl,xb⟩ Opens.same ?_
 rintro⟨⟩ -
 have hw:=qwm hC stamp now
 repeat' (refine Ba ?_;first|refine Q4Z ?_|fail)
 refine Ba ?_
 refine Bb Q8z ?_
 repeat' (refine Ba ?_;first|refine Q4Z ?_|fail)
 refine Ba ?_
 refine Bb (q56 stamp now _ _) ?_
 rcases qd6 (qdj D.C T k now).2 with hb|hb
 .rw[show qc1 D F T k ra db da rb stamp now=F from if_neg (λh=>by rw[hb] at h;exact absurd h.1 Q8I)];exact Q1H
 .by_cases hsl:qja D stamp now<=4194304;rotate_left
  .rw[show qc1 D F T k ra db da rb stamp now=F from if_neg (λh=>hsl h.2.1)];exact Q1H
  .by_cases hz:rgE ra db da rb (D.C 5) (qja D stamp now)=0
   .rw[show qc1 D F T k ra db da rb stamp now=F.range (qdj D.C T k now).1 (jjr ra db da rb (D.C 5) (qja D stamp now)) (jjs ra db da rb (D.C 5) (qja D stamp now)) from if_pos ⟨hb,hsl,hz⟩];repeat' (refine Ba ?_;first|refine Q4Z ?_|refine Bf (by rw[hw,xj];omega) ?_|refine Bf (by rw[hb];rfl) ?_|refine Bb (q9h ra db da rb (D.C 5) _ _ _ hw hz) ?_|refine Q5m ?_|refine Bb (q3x F _ _ _ hF (qhh hb) (jdm hz) 1 _ Q8F) ?_|fail)
    refine Q0S ?_;exact Q1V
   .rw[show qc1 D F T k ra db da rb stamp now=F from if_neg (λh=>hz h.2.2)];repeat' (refine Ba ?_;first|refine Q4Z ?_|refine Bf (by rw[hw,xj];omega) ?_|refine Bf (by rw[hb];rfl) ?_|refine Bb (q9i ra db da rb (D.C 5) _ _ _ hw hz) ?_|refine Bf (en hz) ?_|fail)
    refine Q0S ?_;exact Q1V
open Go Go.RowKit Sx
theorem qrh{q:Nat×Nat}{k:Nat}:∀vs:List Value,All2 (AtRe q k) vs vs
 | []=>trivial
 | v::vs=>⟨.same v,qrh vs⟩
theorem qjb{g:FuncId}{rest:List Value}{V:Value}(gg:Rz)(S:Nat->Ses)(m:Nat)(hm:m<64)(s':Ses)(i k:Nat){o:Bool}(hV:qan V=true){h:Hp}(hi:h[i]?=some (some (@Chunk.mk (jex jfa 64 gg S) o n ps)))(hk:h[k]?=some none)
  (hc:∀(k:Nat)(h:Hp),h[k]?=some (some (sesP (S m)))->qae prog g (xd k::rest) h V [(k,sesP s')] []) :
  CallAll prog g (je0 (gg m)::rest) h λv ms=>v=V/\ms=[(i,@Chunk.mk (jex jfa 64 gg (upd S m s')) o n ps)]:=by
 have hkl:=(xg.1 hk).1
 have key:=hc k ((h.set i (some (@Chunk.mk (wandX (λa=>jex jfa 64 gg (upd S m a)) jfa (gg m)) o n ps))).set k (some (@Chunk.mk (jfa (S m)) true 0 []))) (xG (by simpa using hkl))
 rw[<-qun S m] at hi
 refine qzj (vs':=xd k::rest) (Y:=λa=>jex jfa 64 gg (upd S m a)) (Z:=jfa) (q:=gg m) (a:=S m) i k hi hk (qzl jfa gg S hm (S m) rfl) qc4 ⟨.ptr,qrh rest⟩ (qcr key) λv ms hR=>?_
 obtain⟨rfl,rfl⟩:=hR
 refine⟨s',[],?_,(λm hm=>by cases hm),(λr r' _=>by rw[qa0 hV,qa0 hV]),rfl,rfl⟩
 show List.set _ _ _=List.set _ _ _
 rw[yX]
theorem qow(gg:Rz)(S:Nat->Ses)(m:Nat)(hm:m<64)(t p:Int)(i k:Nat){o:Bool}{h:Hp}(hi:h[i]?=some (some (@Chunk.mk (jex jfa 64 gg S) o n ps)))(hk:h[k]?=some none):CallAll prog 121 [je0 (gg m),xc t,xc p] h λv ms=>v=.tuple #[]/\ms=[(i,@Chunk.mk (jex jfa 64 gg (upd S m ((S m).gotPoll t p))) o n ps)]:=
 qjb gg S m hm _ i k rfl hi hk λk h hk=>qso (S m) t p k h hk
theorem ql0(gg:Rz)(S:Nat->Ses)(m:Nat)(hm:m<64)(t p:Int)(hP:(S m).gotRespP t p)(i k:Nat){o:Bool}{h:Hp}(hi:h[i]?=some (some (@Chunk.mk (jex jfa 64 gg S) o n ps)))(hk:h[k]?=some none):CallAll prog 123 [je0 (gg m),xc t,xc p] h λv ms=>v=.bool true/\ms=[(i,@Chunk.mk (jex jfa 64 gg (upd S m ⟨⟨2,(S m).a.fr,t,(S m).a.mr,(S m).a.sp⟩,(S m).b⟩)) o n ps)]:=
 qjb gg S m hm _ i k rfl hi hk λk h hk=>qqw (S m) t p hP k h hk
theorem q0t(gg:Rz)(S:Nat->Ses)(m:Nat)(hm:m<64)(t p:Int)(hP:¬ (S m).gotRespP t p)(i k:Nat){o:Bool}{h:Hp}(hi:h[i]?=some (some (@Chunk.mk (jex jfa 64 gg S) o n ps)))(hk:h[k]?=some none):CallAll prog 123 [je0 (gg m),xc t,xc p] h λv ms=>v=.bool false/\ms=[(i,@Chunk.mk (jex jfa 64 gg (upd S m (S m))) o n ps)]:=
 qjb gg S m hm _ i k rfl hi hk λk h hk=>qqx (S m) t p hP k h hk
theorem q0u(gg:Rz)(S:Nat->Ses)(m:Nat)(hm:m<64)(t:Int)(hP:(S m).a.endP t)(i k:Nat){o:Bool}{h:Hp}(hi:h[i]?=some (some (@Chunk.mk (jex jfa 64 gg S) o n ps)))(hk:h[k]?=some none):CallAll prog 124 [je0 (gg m),xc t] h λv ms=>v=.tuple #[xc (IntKind.i64.wrap ((S m).a.to-(S m).a.fr)),xc (IntKind.i64.wrap (t-(S m).a.to)),.bool true]/\ms=[(i,@Chunk.mk (jex jfa 64 gg (upd S m ⟨Half.o,(S m).b⟩)) o n ps)]:=
 qjb gg S m hm _ i k rfl hi hk λk h hk=>qv8 (S m) t hP k h hk
theorem q9j(gg:Rz)(S:Nat->Ses)(m:Nat)(hm:m<64)(t:Int)(hP:¬ (S m).a.endP t)(i k:Nat){o:Bool}{h:Hp}(hi:h[i]?=some (some (@Chunk.mk (jex jfa 64 gg S) o n ps)))(hk:h[k]?=some none):CallAll prog 124 [je0 (gg m),xc t] h λv ms=>v=.tuple #[xc 0,xc 0,.bool false]/\ms=[(i,@Chunk.mk (jex jfa 64 gg (upd S m (S m))) o n ps)]:=
 qjb gg S m hm _ i k rfl hi hk λk h hk=>qv9 (S m) t hP k h hk
theorem jdn(gg:Rz)(S:Nat->Ses)(m:Nat)(hm:m<64)(t p:Int)(hP:(S m).b.ansP t)(i k:Nat){o:Bool}{h:Hp}(hi:h[i]?=some (some (@Chunk.mk (jex jfa 64 gg S) o n ps)))(hk:h[k]?=some none):CallAll prog 122 [je0 (gg m),xc t,xc p] h λv ms=>v=.bool true/\ms=[(i,@Chunk.mk (jex jfa 64 gg (upd S m ⟨(S m).a,⟨2,(S m).b.fr,t,p,(S m).b.sp⟩⟩)) o n ps)]:=
 qjb gg S m hm _ i k rfl hi hk λk h hk=>qzh (S m) t p hP k h hk
theorem jdo(gg:Rz)(S:Nat->Ses)(m:Nat)(hm:m<64)(t p:Int)(hP:¬ (S m).b.ansP t)(i k:Nat){o:Bool}{h:Hp}(hi:h[i]?=some (some (@Chunk.mk (jex jfa 64 gg S) o n ps)))(hk:h[k]?=some none):CallAll prog 122 [je0 (gg m),xc t,xc p] h λv ms=>v=.bool false/\ms=[(i,@Chunk.mk (jex jfa 64 gg (upd S m (S m))) o n ps)]:=
 qjb gg S m hm _ i k rfl hi hk λk h hk=>qzi (S m) t p hP k h hk
theorem qwo(gg:Rz)(S:Nat->Ses)(m:Nat)(hm:m<64)(t r d p:Int)(hP:(S m).gotFinalP t p)(i k:Nat){o:Bool}{h:Hp}(hi:h[i]?=some (some (@Chunk.mk (jex jfa 64 gg S) o n ps)))(hk:h[k]?=some none):CallAll prog 125 [je0 (gg m),xc t,xc r,xc d,xc p] h λv ms=>v=.tuple #[.agg #[xc r,xc (IntKind.i64.wrap ((S m).b.to-(S m).b.fr)),xc d,xc (IntKind.i64.wrap (t-(S m).b.to))],xc (S m).b.sp,.bool true]/\ms=[(i,@Chunk.mk (jex jfa 64 gg (upd S m ⟨(S m).a,Half.o⟩)) o n ps)]:=
 qjb gg S m hm _ i k rfl hi hk λk h hk=>qoi (S m) t r d p hP k h hk
theorem qwp(gg:Rz)(S:Nat->Ses)(m:Nat)(hm:m<64)(t r d p:Int)(hP:¬ (S m).gotFinalP t p)(i k:Nat){o:Bool}{h:Hp}(hi:h[i]?=some (some (@Chunk.mk (jex jfa 64 gg S) o n ps)))(hk:h[k]?=some none):CallAll prog 125 [je0 (gg m),xc t,xc r,xc d,xc p] h λv ms=>v=.tuple #[.agg #[xc 0,xc 0,xc 0,xc 0],xc 0,.bool false]/\ms=[(i,@Chunk.mk (jex jfa 64 gg (upd S m (S m))) o n ps)]:=
 qjb gg S m hm _ i k rfl hi hk λk h hk=>qoj (S m) t r d p hP k h hk
structure HrS where
 S:Nat->Ses
 seq:Int
 l:Int
 F:Flr
 T:Tbl
 o:Option Ou
def Frm.mk'(f:Frm):Int:=f.b*65536+f.q
def jji(f:Frm):Frm:=⟨3,0,0,0,0,f.s,f.mk',0,0,0,0,0,0,0,0⟩
def jo1(f:Frm)(r a:Int):Frm:=⟨4,0,0,0,0,f.s,r,a,0,f.mk',0,0,0,0,0⟩
def NdS.se(D:NdS)(S:Nat->Ses):NdS:=⟨D.C,D.id,D.boot,D.g,S,D.seq,D.told,D.asked,D.bad⟩
def NdS.to(D:NdS)(r:HrS):NdS:=⟨D.C,D.id,D.boot,D.g,r.S,r.seq,D.told,D.asked,D.bad⟩
def jhd(D:NdS)(l:Int)(F:Flr)(T:Tbl)(m:Nat)(f:Frm)(at_ now fine:Int):HrS:=
 if l=0 then ⟨upd D.S m ((D.S m).gotPoll at_ f.st),D.seq,l,F,T,none⟩
 else ⟨upd (upd D.S m ((D.S m).gotPoll at_ f.st)) m ((upd D.S m ((D.S m).gotPoll at_ f.st) m).resp fine (D.boot*65536+D.seq)),D.seq+1,l-1,F,T,some ⟨(jji f).by D now,fine⟩⟩
def jg0(D:NdS)(l:Int)(F:Flr)(T:Tbl)(m:Nat)(f:Frm)(at_ now fine:Int):HrS:=
 if (D.S m).gotRespP at_ f.t1 then
  (if (upd D.S m ((D.S m).gotResp at_ f.t1) m).a.endP fine then
   (
    if l=0 then ⟨upd (upd D.S m ((D.S m).gotResp at_ f.t1)) m ((upd D.S m ((D.S m).gotResp at_ f.t1) m).final fine),D.seq,l,F,T,none⟩
    else ⟨upd (upd D.S m ((D.S m).gotResp at_ f.t1)) m ((upd D.S m ((D.S m).gotResp at_ f.t1) m).final fine),D.seq+1,l-1,F,T,
     some ⟨(jo1 f (IntKind.i64.wrap ((upd D.S m ((D.S m).gotResp at_ f.t1) m).a.to-(upd D.S m ((D.S m).gotResp at_ f.t1) m).a.fr)) (IntKind.i64.wrap (fine-(upd D.S m ((D.S m).gotResp at_ f.t1) m).a.to))).by D now,fine⟩⟩)
   else ⟨upd (upd D.S m ((D.S m).gotResp at_ f.t1)) m (upd D.S m ((D.S m).gotResp at_ f.t1) m),D.seq,l,F,T,none⟩)
 else ⟨upd D.S m (D.S m),D.seq,l,F,T,none⟩
def qm5(D:NdS)(l:Int)(F:Flr)(T:Tbl)(m:Nat)(f:Frm)(at_ now:Int):HrS:=
 if (D.S m).gotFinalP at_ f.wn then ⟨upd D.S m ((D.S m).gotFinal at_ f.wn),D.seq,l,qc1 D F T f.s f.t1 (IntKind.i64.wrap ((D.S m).b.to-(D.S m).b.fr)) f.t2 (IntKind.i64.wrap (at_-(D.S m).b.to)) (D.S m).b.sp now,T,none⟩
 else ⟨upd D.S m (D.S m),D.seq,l,F,T,none⟩
theorem qjc(D:NdS)(f t b mm m:Nat)(hm:m<64){p:Nat}(hp:p=15+m):Reads (ndC D f t b mm) p false 1 (je0 (D.g m)):=by
 subst hp;refine⟨by show 15+m<85;omega,rfl,?_⟩;show qbf [(79,6,_),(15,64,_),(0,15,_)] _=_
 grind[qar,cellIn]
def hrR(D:NdS)(now fine n:Int)(r:HrS)(i0 i1 i2 i3 i4 i5 K:Nat)(v:Value)(ms:Mz):Prop:=
 v=.tuple #[]/\match r.o with
 | none=>ms=[(i0,sdC i1 now fine (.slice none 0 0)),(i1,ndC (D.to r) i2 i3 i4 i5),(i2,fiF r.F),(i3,tblC r.T),(i4,twC n r.l)]
 | some x=>∃κ:Nat,1<=κ/\ms=[(i0,sdC i1 now fine (.slice (some ⟨K,0,some 0⟩) 1 κ)),(i1,ndC (D.to r) i2 i3 i4 i5),(i2,fiF r.F),(i3,tblC r.T),(i4,twC n r.l),(K,ouR [x] κ)]
theorem jdp{sl K:Nat}{l:List (Nat×Nat)}(h:∀p∈l,p.1≠sl):ixK (l++[(sl,K)]) sl=some K:=by
 induction l with
 | nil=>show(match Nat.beq sl sl with | true=>_ | false=>_)=_;rw[Nat.beq_refl]
 | cons a r ih=>
  grind[xN,ixK]
abbrev m6(D:NdS)(now fine n:Int)(i0 i1 i2 i3 i4 i5:Nat)(R:HrS):Mz:=[(i0,sdC i1 now fine (.slice none 0 0)),(i1,ndC (D.to R) i2 i3 i4 i5),(i2,fiF R.F),(i3,tblC R.T),(i4,twC n R.l)]
abbrev y6(D:NdS)(now fine n:Int)(i0 i1 i2 i3 i4 i5 K:Nat)(R:HrS)(x:Ou)(v:Value)(ms:Mz):Prop:=∃κ:Nat,1<=κ/\v=.tuple #[]/\ms=[(i0,sdC i1 now fine (.slice (some ⟨K,0,some 0⟩) 1 κ)),(i1,ndC (D.to R) i2 i3 i4 i5),(i2,fiF R.F),(i3,tblC R.T),(i4,twC n R.l),(K,ouR [x] κ)]
abbrev hdA(f:Frm)(at_:Int)(i0 i1:Nat):List Value:=[xd i1,hdV f at_ i0]
variable{i0 i1:Nat}
theorem jo2{f:Frm}{at_:Int}(h0:ixK ix 0=some i0)(h1:ixK ix 1=some i1):All2 (Re2 ix) (hdA f at_ i0 i1) (hdA f at_ 0 1):=⟨.ptr h1,.agg ⟨.plain rfl,.plain rfl,.plain rfl,.plain rfl,.plain rfl,.plain rfl,.plain rfl,.plain rfl,.plain rfl,.plain rfl,.plain rfl,.plain rfl,.plain rfl,.plain rfl,.plain rfl,.plain rfl,.ptr h0,xb⟩,xb⟩
structure On6(D:NdS)(F:Flr)(T:Tbl)(now fine n l:Int)(i0 i1 i2 i3 i4 i5 K:Nat)(h:Hp)(cm:Chunk):Prop where
 h0:h[i0]?=some (some (sdC i1 now fine (.slice none 0 0)))
 h1:h[i1]?=some (some (ndC D i2 i3 i4 i5))
 h2:h[i2]?=some (some (fiF F))
 h3:h[i3]?=some (some (tblC T))
 h4:h[i4]?=some (some (twC n l))
 h5:h[i5]?=some (some cm)
 hK:h[K]?=some none
 ne:[i0,i1,i2,i3,i4,i5].Nodup
structure Rg(D:NdS)(F:Flr)(f:Frm)(m:Nat)(l:Int):Prop where
 hm:f.s=(m:Int)
 hm64:m<64
 hfr:0<=f.b/\f.b<=65535/\0<=f.q/\f.q<=65535
 hl:0<=l/\l<1000
 hs:0<=D.seq/\D.seq<65535
 hb:0<=D.boot/\D.boot<=65535
 hF:F.valid=true->F.e.may
 hC:0<=D.C 2/\D.C 2<=1000
abbrev ss6(D:NdS)(F:Flr)(T:Tbl)(now fine n l:Int)(i0 i1 i2 i3 i4 i5:Nat)(cm:Chunk)(R:HrS):List jeo:=[⟨i0,sdC i1 now fine (.slice none 0 0),sdC 1 now fine (.slice none 0 0),sdC i1 now fine (.slice none 0 0)⟩,⟨i1,ndC D i2 i3 i4 i5,ndC D 2 3 4 5,ndC (D.to R) i2 i3 i4 i5⟩,⟨i2,fiF F,fiF F,fiF R.F⟩,⟨i3,tblC T,tblC T,tblC R.T⟩,⟨i4,twC n l,twC n l,twC n R.l⟩,⟨i5,cm,noC,noC⟩]
abbrev sy6(D:NdS)(F:Flr)(T:Tbl)(now fine n l:Int)(i0 i1 i2 i3 i4 i5:Nat)(cm:Chunk):List jeo:=[⟨i0,sdC i1 now fine (.slice none 0 0),sdC 1 now fine (.slice none 0 0),noC⟩,⟨i1,ndC D i2 i3 i4 i5,ndC D 2 3 4 5,noC⟩,⟨i2,fiF F,fiF F,noC⟩,⟨i3,tblC T,tblC T,tblC T⟩,⟨i4,twC n l,twC n l,noC⟩,⟨i5,cm,noC,noC⟩]
abbrev K6(ss:List jeo)(v':Value)(h':Hp):Prop:=N (Obl (Re (partX ss 0++madeX []) (.tuple #[]) v') (N (Obl (PostS (partX ss 0++madeX []) h' ss 0) (N (Obl (PostN (partX ss 0++madeX []) h' ss.length []) (N (Obl (PostX h' ss 0/\MadeP h' []) (N True))))))))
abbrev WP6(fn:Func)(cd:Code)(vs':List Value)(ss:List jeo):Prop:=initK vs' fn.ntmps λt=>wpC prog tys ss.length cd (bodyQ prog tys fn λv st=>N (EndN ss st.h v (K6 ss))) ⟨t,partH ss⟩
variable{T:Tbl}{vs:List Value}{F:Flr}{l:Int}{i2 i3 i4 i5:Nat}
theorem jff{g:FuncId}{fn:Func}{cd:Code}{now n:Int}{K:Nat}{h:Hp}{cm:Chunk}(O:On6 D F T now fine n l i0 i1 i2 i3 i4 i5 K h cm)(R:HrS)(vs':List Value)(hf:prog.funcs[g]?=some fn)(hb:fn.body=some cd)(hr:∀xs w,(callFunc g xs).run prog w=.ok (.enter g xs) w)(hv:All2 (Re2 (partX (ss6 D F T now fine n l i0 i1 i2 i3 i4 i5 cm R) 0)) vs vs')(hwp:WP6 fn cd vs' (ss6 D F T now fine n l i0 i1 i2 i3 i4 i5 cm R)):
  qae prog g vs h (.tuple #[]) [(i0,sdC i1 now fine (.slice none 0 0)),(i1,ndC (D.to R) i2 i3 i4 i5),(i2,fiF R.F),(i3,tblC R.T),(i4,twC n R.l)] [i5]:=
 qaq (λ_:Unit=>True) (λ_=>_) (ss6 D F T now fine n l i0 i1 i2 i3 i4 i5 cm R) [] vs' tysOK mixed hf hb hr ⟨O.h0,O.h1,O.h2,O.h3,O.h4,O.h5,xb⟩
  ⟨Q7S,Q7p,Q7A,Q74,Q7H,Q7a,xb⟩ (qf5 O.ne) Q8q xb hv Opens.same λ_ _=>hwp
theorem jg1{now n:Int}{cm:Chunk}{R:HrS}{h':Hp}(e0:h'[0]?=some (some (sdC 1 now fine (.slice none 0 0))))(e1:h'[1]?=some (some (ndC (D.to R) 2 3 4 5)))(e2:h'[2]?=some (some (fiF R.F)))(e3:h'[3]?=some (some (tblC R.T)))(e4:h'[4]?=some (some (twC n R.l))):N (EndN (ss6 D F T now fine n l i0 i1 i2 i3 i4 i5 cm R) h' (.tuple #[]) (K6 (ss6 D F T now fine n l i0 i1 i2 i3 i4 i5 cm R))):=by
 refine Bn ?_;refine Bc (.plain Q8F) ?_;refine Bc ⟨⟨_,e0,id,nlr _,lt4 (.ptr Q8F) (.plain rfl) (.plain rfl) (.plain rfl)⟩,Q7X,⟨_,e2,id,nlr _,re7⟩,⟨_,e3,id,nlr _,nzj⟩,⟨_,e4,id,nlr _,re2⟩,xb⟩ ?_;refine Bc xb ?_;refine Bc ⟨Q8o,xb⟩ ?_;exact Be
abbrev D6(D:NdS)(now fine n:Int)(i1 i2 i3 i4 i5 K:Nat)(R:HrS)(κ:Nat):List Chunk:=[sdC i1 now fine (.slice (some ⟨K,0,some 0⟩) 1 κ),ndC (D.to R) i2 i3 i4 i5,fiF R.F,tblC R.T,twC n R.l,noC]
abbrev Y6(ss:List jeo)(dd:Nat->List Chunk)(K sl:Nat)(x:Ou)(v':Value)(h':Hp):Prop:=N (jj2 λκ=>1<=κ/\N (Obl (Re (partX ss 0++madeX [⟨K,sl,ouR [x] κ⟩]) (.tuple #[]) v') (N (Obl (PostS (partX ss 0++madeX [⟨K,sl,ouR [x] κ⟩]) h' (setD ss (dd κ)) 0) (N (Obl (PostN (partX ss 0++madeX [⟨K,sl,ouR [x] κ⟩]) h' ss.length [⟨K,sl,ouR [x] κ⟩]) (N (Obl (PostX h' (setD ss (dd κ)) 0/\MadeP h' [⟨K,sl,ouR [x] κ⟩]) (N True)))))))))
abbrev WY6(fn:Func)(cd:Code)(vs':List Value)(ss:List jeo)(dd:Nat->List Chunk)(K sl:Nat)(x:Ou):Prop:=initK vs' fn.ntmps λt=>wpC prog tys ss.length cd (bodyQ prog tys fn λv st=>N (EndN ss st.h v (Y6 ss dd K sl x))) ⟨t,partH ss⟩
theorem jkz{g:FuncId}{fn:Func}{cd:Code}{now n:Int}{K:Nat}{h:Hp}{cm:Chunk}(O:On6 D F T now fine n l i0 i1 i2 i3 i4 i5 K h cm)(R:HrS)(x:Ou)(sl:Nat)(vs':List Value)(hf:prog.funcs[g]?=some fn)(hb:fn.body=some cd)(hr:∀xs w,(callFunc g xs).run prog w=.ok (.enter g xs) w)(hv:All2 (Re2 (partX (sy6 D F T now fine n l i0 i1 i2 i3 i4 i5 cm) 0)) vs vs')(hwp:WY6 fn cd vs' (sy6 D F T now fine n l i0 i1 i2 i3 i4 i5 cm) (D6 D now fine n i1 i2 i3 i4 i5 K R) K sl x):
  CallAll prog g vs h (λv ms=>∃κ:Nat,1<=κ/\v=.tuple #[]/\ms=[(i0,sdC i1 now fine (.slice (some ⟨K,0,some 0⟩) 1 κ)),(i1,ndC (D.to R) i2 i3 i4 i5),(i2,fiF R.F),(i3,tblC R.T),(i4,twC n R.l),(K,ouR [x] κ)]):=by
 refine qax (qa8 (λ_:Unit=>True) (λ_=>_) (λκ=>1<=κ) (λ_=>.tuple #[]) (sy6 D F T now fine n l i0 i1 i2 i3 i4 i5 cm) (D6 D now fine n i1 i2 i3 i4 i5 K R) (λκ=>[⟨K,sl,ouR [x] κ⟩]) vs' tysOK mixed hf hb hr ⟨O.h0,O.h1,O.h2,O.h3,O.h4,O.h5,xb⟩ ⟨Q8g,Q8t,⟨λ_=>⟨rfl,xn _⟩,nlr _,re7⟩,Q74,⟨λ_=>⟨rfl,xn _⟩,nlr _,re2⟩,Q7a,xb⟩ (λκ _=>⟨Q7S,Q7p,Q7A,Q74,Q7H,Q7a,xb⟩) (qf5 O.ne) Q8q (λκ hκ=>⟨⟨O.hK,rfl,.inl (by show 0<κ*16;have:1<=κ:=hκ;omega),by simp⟩,xb⟩) hv Opens.same λ_ _=>hwp) λv ms hR=>?_
 obtain⟨κ,hκ,rfl,rfl⟩:=hR
 exact⟨κ,hκ,rfl,rfl⟩
theorem fiY{now n:Int}{K sl:Nat}{cm:Chunk}{R:HrS}{x:Ou}{κ:Nat}{h':Hp}(hκ:1<=κ)(e0:h'[0]?=some (some (sdC 1 now fine (.slice (some ⟨sl,0,some 0⟩) 1 κ))))(e1:h'[1]?=some (some (ndC (D.to R) 2 3 4 5)))(e2:h'[2]?=some (some (fiF R.F)))(e3:h'[3]?=some (some (tblC R.T)))(e4:h'[4]?=some (some (twC n R.l)))(e6:h'[sl]?=some (some (ouR [x] κ)))(hsl:6<=sl):N (EndN (sy6 D F T now fine n l i0 i1 i2 i3 i4 i5 cm) h' (.tuple #[]) (Y6 (sy6 D F T now fine n l i0 i1 i2 i3 i4 i5 cm) (D6 D now fine n i1 i2 i3 i4 i5 K R) K sl x)):=by
 refine Bn ?_;refine Bt κ ⟨hκ,?_⟩;refine Bc (.plain Q8F) ?_;refine Bc ⟨⟨_,e0,id,nlr _,lt4 (.ptr Q8F) (.plain rfl) (.plain rfl) (.slice (jdp (l:=partX (sy6 D F T now fine n l i0 i1 i2 i3 i4 i5 cm) 0) λp hp=>by simp[partX] at hp;rcases hp with rfl|rfl|rfl|rfl|rfl|rfl<;>(show(_:Nat)≠sl;omega)))⟩,Q7X,⟨_,e2,id,nlr _,re7⟩,⟨_,e3,id,nlr _,nzj⟩,⟨_,e4,id,nlr _,re2⟩,xb⟩ ?_;refine Bc ⟨⟨hsl,qu6 e6⟩,xb⟩ ?_;refine Bc ⟨Q8o,.inl rfl,xb⟩ ?_;exact Be
theorem q4f{f:Frm}{at_ now n:Int}(B:Rg D F f m l)(hk:f.k=2)(hl0:l=0){K:Nat}{h:Hp}{cm:Chunk}(O:On6 D F T now fine n l i0 i1 i2 i3 i4 i5 K h cm):
  qae prog 87 (hdA f at_ i0 i1) h (.tuple #[]) (m6 D now fine n i0 i1 i2 i3 i4 i5 (⟨upd D.S m ((D.S m).gotPoll at_ f.st),D.seq,l,F,T,none⟩:HrS)) [i5]:=by
 obtain⟨hm,hm64,hfr,hl,hs,hb,hF,hC⟩:=B
 refine jff O _ (hdA f at_ 0 1) func87 Q8F (call87) Q7g ?_
 repeat' (refine Ba ?_;first|refine Q4Z ?_|refine Q5J ?_|refine Bg (ei hk) ?_|fail)
 refine Ba ?_
 refine Bh Q8j λv ms hR=>?_
 obtain⟨rfl,rfl⟩:=hR
 repeat' (refine Ba ?_;first|refine Q4Z ?_|refine Q5X ?_|fail)
 refine Ba ?_
 refine Bb (q5w (D.se (upd D.S m ((D.S m).gotPoll at_ f.st))) now fine (.slice none 0 0) n l 3 0 0 0 0 f.s f.mk' 0 0 0 0 0 0 0 0 hl0 0 1 2 3 4 5 _ _ _ _ Q8F Q8F Q8F Q8F Q8F Q8F Q8I) ?_
 repeat' (refine Ba ?_;first|refine Q4Z ?_|refine Q5d ?_|refine Q5m ?_|fail)
 refine Ba ?_
 exact jg1 rfl rfl rfl rfl rfl
theorem q4g{f:Frm}{at_ now n:Int}(B:Rg D F f m l)(hk:f.k=2)(hl0:¬ l=0)(ha:((upd D.S m ((D.S m).gotPoll at_ f.st)) m).b.ansP fine){K:Nat}{h:Hp}{cm:Chunk}(O:On6 D F T now fine n l i0 i1 i2 i3 i4 i5 K h cm):
  CallAll prog 87 (hdA f at_ i0 i1) h (y6 D now fine n i0 i1 i2 i3 i4 i5 K (⟨upd (upd D.S m ((D.S m).gotPoll at_ f.st)) m ⟨((upd D.S m ((D.S m).gotPoll at_ f.st)) m).a,⟨2,((upd D.S m ((D.S m).gotPoll at_ f.st)) m).b.fr,fine,(D.boot*65536+D.seq),((upd D.S m ((D.S m).gotPoll at_ f.st)) m).b.sp⟩⟩,D.seq+1,l-1,F,T,none⟩:HrS) (⟨(jji f).by D now,fine⟩)):=by
 obtain⟨hm,hm64,hfr,hl,hs,hb,hF,hC⟩:=B
 refine jkz O _ _ 10 (hdA f at_ 0 1) func87 Q8F (call87) Q7g ?_
 repeat' (refine Ba ?_;first|refine Q4Z ?_|refine Q5J ?_|refine Bg (ei hk) ?_|fail)
 refine Ba ?_
 refine Bh Q8j λv ms hR=>?_
 obtain⟨rfl,rfl⟩:=hR
 repeat' (refine Ba ?_;first|refine Q52 ?_|refine Q54 ?_|fail)
 refine Ba ?_
 refine Bv ?_
 refine Ba ?_
 refine Bu [0,1,2,3,4,5,6] [(7,[8,9,10,11,12])] Q8J ?_
 repeat' (refine Ba ?_;first|refine Q4Z ?_|refine Q5X ?_|fail)
 refine Ba ?_
 refine Bz [0,1,2,3,4,5,10] _ Q8J Q7v λv ms hR=>?_
 obtain⟨κ,hκ,rfl,rfl⟩:=hR
 refine⟨by simp,?_⟩
 repeat' (refine Ba ?_;first|refine Q4Z ?_|fail)
 refine Ba ?_
 refine Bh (jdn D.g (upd D.S m ((D.S m).gotPoll at_ f.st)) m hm64 fine (D.boot*65536+D.seq) ha 1 11 Q8F Q8F) λv ms hR=>?_
 obtain⟨rfl,rfl⟩:=hR
 repeat' (refine Ba ?_;first|refine Q4Z ?_|refine Q5d ?_|refine Q5m ?_|fail)
 refine Ba ?_
 exact fiY hκ rfl rfl rfl rfl rfl rfl Q8I
theorem q4h{f:Frm}{at_ now n:Int}(B:Rg D F f m l)(hk:f.k=2)(hl0:¬ l=0)(ha:¬ ((upd D.S m ((D.S m).gotPoll at_ f.st)) m).b.ansP fine){K:Nat}{h:Hp}{cm:Chunk}(O:On6 D F T now fine n l i0 i1 i2 i3 i4 i5 K h cm):
  CallAll prog 87 (hdA f at_ i0 i1) h (y6 D now fine n i0 i1 i2 i3 i4 i5 K (⟨upd (upd D.S m ((D.S m).gotPoll at_ f.st)) m ((upd D.S m ((D.S m).gotPoll at_ f.st)) m),D.seq+1,l-1,F,T,none⟩:HrS) (⟨(jji f).by D now,fine⟩)):=by
 obtain⟨hm,hm64,hfr,hl,hs,hb,hF,hC⟩:=B
 refine jkz O _ _ 10 (hdA f at_ 0 1) func87 Q8F (call87) Q7g ?_
 repeat' (refine Ba ?_;first|refine Q4Z ?_|refine Q5J ?_|refine Bg (ei hk) ?_|fail)
 refine Ba ?_
 refine Bh Q8j λv ms hR=>?_
 obtain⟨rfl,rfl⟩:=hR
 repeat' (refine Ba ?_;first|refine Q52 ?_|refine Q54 ?_|fail)
 refine Ba ?_
 refine Bv ?_
 refine Ba ?_
 refine Bu [0,1,2,3,4,5,6] [(7,[8,9,10,11,12])] Q8J ?_
 repeat' (refine Ba ?_;first|refine Q4Z ?_|refine Q5X ?_|fail)
 refine Ba ?_
 refine Bz [0,1,2,3,4,5,10] _ Q8J Q7v λv ms hR=>?_
 obtain⟨κ,hκ,rfl,rfl⟩:=hR
 refine⟨by simp,?_⟩
 repeat' (refine Ba ?_;first|refine Q4Z ?_|fail)
 refine Ba ?_
 refine Bh (jdo D.g (upd D.S m ((D.S m).gotPoll at_ f.st)) m hm64 fine (D.boot*65536+D.seq) ha 1 11 Q8F Q8F) λv ms hR=>?_
 obtain⟨rfl,rfl⟩:=hR
 repeat' (refine Ba ?_;first|refine Q4Z ?_|refine Q5d ?_|refine Q5m ?_|fail)
 refine Ba ?_
 exact fiY hκ rfl rfl rfl rfl rfl rfl Q8I
theorem q4i{f:Frm}{at_ now n:Int}(B:Rg D F f m l)(hk:f.k=3)(hg:¬ (D.S m).gotRespP at_ f.t1){K:Nat}{h:Hp}{cm:Chunk}(O:On6 D F T now fine n l i0 i1 i2 i3 i4 i5 K h cm):
  qae prog 87 (hdA f at_ i0 i1) h (.tuple #[]) (m6 D now fine n i0 i1 i2 i3 i4 i5 (⟨upd D.S m (D.S m),D.seq,l,F,T,none⟩:HrS)) [i5]:=by
 obtain⟨hm,hm64,hfr,hl,hs,hb,hF,hC⟩:=B
 refine jff O _ (hdA f at_ 0 1) func87 Q8F (call87) Q7g ?_
 repeat' (refine Ba ?_;first|refine Q4Z ?_|refine Q5J ?_|refine Q5t ?_|fail)
 refine Ba ?_
 refine Bh (q0t D.g D.S m hm64 at_ f.t1 hg 1 8 Q8F Q8F) λv ms hR=>?_
 obtain⟨rfl,rfl⟩:=hR
 repeat' (refine Ba ?_;first|refine Q4Z ?_|refine Q5d ?_|refine Q5m ?_|fail)
 refine Ba ?_
 exact jg1 rfl rfl rfl rfl rfl
theorem q4j{f:Frm}{at_ now n:Int}(B:Rg D F f m l)(hk:f.k=3)(hg:(D.S m).gotRespP at_ f.t1)(he:¬ ((upd D.S m ⟨⟨2,(D.S m).a.fr,at_,(D.S m).a.mr,(D.S m).a.sp⟩,(D.S m).b⟩) m).a.endP fine){K:Nat}{h:Hp}{cm:Chunk}(O:On6 D F T now fine n l i0 i1 i2 i3 i4 i5 K h cm):
  qae prog 87 (hdA f at_ i0 i1) h (.tuple #[]) (m6 D now fine n i0 i1 i2 i3 i4 i5 (⟨upd (upd D.S m ⟨⟨2,(D.S m).a.fr,at_,(D.S m).a.mr,(D.S m).a.sp⟩,(D.S m).b⟩) m ((upd D.S m ⟨⟨2,(D.S m).a.fr,at_,(D.S m).a.mr,(D.S m).a.sp⟩,(D.S m).b⟩) m),D.seq,l,F,T,none⟩:HrS)) [i5]:=by
 obtain⟨hm,hm64,hfr,hl,hs,hb,hF,hC⟩:=B
 refine jff O _ (hdA f at_ 0 1) func87 Q8F (call87) Q7g ?_
 repeat' (refine Ba ?_;first|refine Q4Z ?_|refine Q5J ?_|refine Q5t ?_|fail)
 refine Ba ?_
 refine Bh Q8f λv ms hR=>?_
 obtain⟨rfl,rfl⟩:=hR
 repeat' (refine Ba ?_;first|refine Q4Z ?_|refine Q5d ?_|refine Q5m ?_|fail)
 refine Ba ?_
 refine Bh (q9j D.g (upd D.S m ⟨⟨2,(D.S m).a.fr,at_,(D.S m).a.mr,(D.S m).a.sp⟩,(D.S m).b⟩) m hm64 fine he 1 9 Q8F Q8F) λv ms hR=>?_
 obtain⟨rfl,rfl⟩:=hR
 repeat' (refine Ba ?_;first|refine Q4Z ?_|refine Q5d ?_|refine Q5m ?_|fail)
 refine Ba ?_
 exact jg1 rfl rfl rfl rfl rfl
theorem q4k{f:Frm}{at_ now n:Int}(B:Rg D F f m l)(hk:f.k=3)(hg:(D.S m).gotRespP at_ f.t1)(he:((upd D.S m ⟨⟨2,(D.S m).a.fr,at_,(D.S m).a.mr,(D.S m).a.sp⟩,(D.S m).b⟩) m).a.endP fine)(hl0:l=0){K:Nat}{h:Hp}{cm:Chunk}(O:On6 D F T now fine n l i0 i1 i2 i3 i4 i5 K h cm):
  qae prog 87 (hdA f at_ i0 i1) h (.tuple #[]) (m6 D now fine n i0 i1 i2 i3 i4 i5 (⟨upd (upd D.S m ⟨⟨2,(D.S m).a.fr,at_,(D.S m).a.mr,(D.S m).a.sp⟩,(D.S m).b⟩) m ⟨Half.o,((upd D.S m ⟨⟨2,(D.S m).a.fr,at_,(D.S m).a.mr,(D.S m).a.sp⟩,(D.S m).b⟩) m).b⟩,D.seq,l,F,T,none⟩:HrS)) [i5]:=by
 obtain⟨hm,hm64,hfr,hl,hs,hb,hF,hC⟩:=B
 refine jff O _ (hdA f at_ 0 1) func87 Q8F (call87) Q7g ?_
 repeat' (refine Ba ?_;first|refine Q4Z ?_|refine Q5J ?_|refine Q5t ?_|fail)
 refine Ba ?_
 refine Bh Q8f λv ms hR=>?_
 obtain⟨rfl,rfl⟩:=hR
 repeat' (refine Ba ?_;first|refine Q4Z ?_|refine Q5d ?_|refine Q5m ?_|fail)
 refine Ba ?_
 refine Bh Q83 λv ms hR=>?_
 obtain⟨rfl,rfl⟩:=hR
 repeat' (refine Ba ?_;first|refine Q4Z ?_|refine Q5X ?_|fail)
 refine Ba ?_
 refine Bb (q5w (D.se (upd (upd D.S m ⟨⟨2,(D.S m).a.fr,at_,(D.S m).a.mr,(D.S m).a.sp⟩,(D.S m).b⟩) m ⟨Half.o,((upd D.S m ⟨⟨2,(D.S m).a.fr,at_,(D.S m).a.mr,(D.S m).a.sp⟩,(D.S m).b⟩) m).b⟩)) now fine (.slice none 0 0) n l 4 0 0 0 0 f.s (IntKind.i64.wrap (((upd D.S m ⟨⟨2,(D.S m).a.fr,at_,(D.S m).a.mr,(D.S m).a.sp⟩,(D.S m).b⟩) m).a.to-((upd D.S m ⟨⟨2,(D.S m).a.fr,at_,(D.S m).a.mr,(D.S m).a.sp⟩,(D.S m).b⟩) m).a.fr)) (IntKind.i64.wrap (fine-((upd D.S m ⟨⟨2,(D.S m).a.fr,at_,(D.S m).a.mr,(D.S m).a.sp⟩,(D.S m).b⟩) m).a.to)) 0 f.mk' 0 0 0 0 0 hl0 0 1 2 3 4 5 _ _ _ _ Q8F Q8F Q8F Q8F Q8F Q8F Q8I) ?_
 repeat' (refine Ba ?_;first|refine Q4Z ?_|refine Q5d ?_|refine Q5m ?_|fail)
 refine Ba ?_
 exact jg1 rfl rfl rfl rfl rfl
theorem q4l{f:Frm}{at_ now n:Int}(B:Rg D F f m l)(hk:f.k=3)(hg:(D.S m).gotRespP at_ f.t1)(he:((upd D.S m ⟨⟨2,(D.S m).a.fr,at_,(D.S m).a.mr,(D.S m).a.sp⟩,(D.S m).b⟩) m).a.endP fine)(hl0:¬ l=0){K:Nat}{h:Hp}{cm:Chunk}(O:On6 D F T now fine n l i0 i1 i2 i3 i4 i5 K h cm):
  CallAll prog 87 (hdA f at_ i0 i1) h (y6 D now fine n i0 i1 i2 i3 i4 i5 K (⟨upd (upd D.S m ⟨⟨2,(D.S m).a.fr,at_,(D.S m).a.mr,(D.S m).a.sp⟩,(D.S m).b⟩) m ⟨Half.o,((upd D.S m ⟨⟨2,(D.S m).a.fr,at_,(D.S m).a.mr,(D.S m).a.sp⟩,(D.S m).b⟩) m).b⟩,D.seq+1,l-1,F,T,none⟩:HrS) (⟨(jo1 f (IntKind.i64.wrap (((upd D.S m ⟨⟨2,(D.S m).a.fr,at_,(D.S m).a.mr,(D.S m).a.sp⟩,(D.S m).b⟩) m).a.to-((upd D.S m ⟨⟨2,(D.S m).a.fr,at_,(D.S m).a.mr,(D.S m).a.sp⟩,(D.S m).b⟩) m).a.fr)) (IntKind.i64.wrap (fine-((upd D.S m ⟨⟨2,(D.S m).a.fr,at_,(D.S m).a.mr,(D.S m).a.sp⟩,(D.S m).b⟩) m).a.to))).by D now,fine⟩)):=by
 obtain⟨hm,hm64,hfr,hl,hs,hb,hF,hC⟩:=B
 refine jkz O _ _ 11 (hdA f at_ 0 1) func87 Q8F (call87) Q7g ?_
 repeat' (refine Ba ?_;first|refine Q4Z ?_|refine Q5J ?_|refine Q5t ?_|fail)
 refine Ba ?_
 refine Bh Q8f λv ms hR=>?_
 obtain⟨rfl,rfl⟩:=hR
 repeat' (refine Ba ?_;first|refine Q4Z ?_|refine Q5d ?_|refine Q5m ?_|fail)
 refine Ba ?_
 refine Bh Q83 λv ms hR=>?_
 obtain⟨rfl,rfl⟩:=hR
 repeat' (refine Ba ?_;first|refine Q52 ?_|refine Q54 ?_|fail)
 refine Ba ?_
 refine Bv ?_
 refine Ba ?_
 refine Bu [0,1,2,3,4,5,6,7,8] [(9,[])] Q8J ?_
 repeat' (refine Ba ?_;first|refine Q4Z ?_|refine Q5X ?_|fail)
 refine Ba ?_
 refine Bz [0,1,2,3,4,5,11] _ Q8J (λh₂ hh=>q0r (D.se (upd (upd D.S m ⟨⟨2,(D.S m).a.fr,at_,(D.S m).a.mr,(D.S m).a.sp⟩,(D.S m).b⟩) m ⟨Half.o,((upd D.S m ⟨⟨2,(D.S m).a.fr,at_,(D.S m).a.mr,(D.S m).a.sp⟩,(D.S m).b⟩) m).b⟩)) (jo1 f (IntKind.i64.wrap (((upd D.S m ⟨⟨2,(D.S m).a.fr,at_,(D.S m).a.mr,(D.S m).a.sp⟩,(D.S m).b⟩) m).a.to-((upd D.S m ⟨⟨2,(D.S m).a.fr,at_,(D.S m).a.mr,(D.S m).a.sp⟩,(D.S m).b⟩) m).a.fr)) (IntKind.i64.wrap (fine-((upd D.S m ⟨⟨2,(D.S m).a.fr,at_,(D.S m).a.mr,(D.S m).a.sp⟩,(D.S m).b⟩) m).a.to))) now fine n l Q8E hs hb 0 1 2 3 4 5 11 h₂ _ _ _ Q7C ((hh 1 Q8P).trans rfl) Q7V ((hh 3 Q8P).trans rfl) ((hh 4 Q8P).trans rfl) Q8h ((hh 11 Q8P).trans rfl) Q8I) λv ms hR=>?_
 obtain⟨κ,hκ,rfl,rfl⟩:=hR
 refine⟨by simp,?_⟩
 repeat' (refine Ba ?_;first|refine Q4Z ?_|refine Q5d ?_|refine Q5m ?_|fail)
 refine Ba ?_
 exact fiY hκ rfl rfl rfl rfl rfl rfl Q8I
theorem q9k{f:Frm}{at_ now n:Int}(B:Rg D F f m l)(hk:f.k=4)(hg:¬ (D.S m).gotFinalP at_ f.wn){K:Nat}{h:Hp}{cm:Chunk}(O:On6 D F T now fine n l i0 i1 i2 i3 i4 i5 K h cm):
  qae prog 87 (hdA f at_ i0 i1) h (.tuple #[]) (m6 D now fine n i0 i1 i2 i3 i4 i5 (⟨upd D.S m (D.S m),D.seq,l,F,T,none⟩:HrS)) [i5]:=by
 obtain⟨hm,hm64,hfr,hl,hs,hb,hF,hC⟩:=B
 refine jff O _ (hdA f at_ 0 1) func87 Q8F (call87) Q7g ?_
 repeat' (refine Ba ?_;first|refine Q4Z ?_|refine Q5J ?_|refine Q5t ?_|fail)
 refine Ba ?_
 refine Bh (qwp D.g D.S m hm64 at_ f.t1 f.t2 f.wn hg 1 8 Q8F Q8F) λv ms hR=>?_
 obtain⟨rfl,rfl⟩:=hR
 repeat' (refine Ba ?_;first|refine Q4Z ?_|refine Q5d ?_|refine Q5m ?_|fail)
 refine Ba ?_
 exact jg1 rfl rfl rfl rfl rfl
theorem q9l{f:Frm}{at_ now n:Int}(B:Rg D F f m l)(hk:f.k=4)(hg:(D.S m).gotFinalP at_ f.wn){K:Nat}{h:Hp}{cm:Chunk}(O:On6 D F T now fine n l i0 i1 i2 i3 i4 i5 K h cm):
  qae prog 87 (hdA f at_ i0 i1) h (.tuple #[]) (m6 D now fine n i0 i1 i2 i3 i4 i5 (⟨upd D.S m ⟨(D.S m).a,Half.o⟩,D.seq,l,qc1 D F T f.s f.t1 (IntKind.i64.wrap ((D.S m).b.to-(D.S m).b.fr)) f.t2 (IntKind.i64.wrap (at_-(D.S m).b.to)) (D.S m).b.sp now,T,none⟩:HrS)) [i5]:=by
 obtain⟨hm,hm64,hfr,hl,hs,hb,hF,hC⟩:=B
 refine jff O _ (hdA f at_ 0 1) func87 Q8F (call87) Q7g ?_
 repeat' (refine Ba ?_;first|refine Q4Z ?_|refine Q5J ?_|refine Q5t ?_|fail)
 refine Ba ?_
 refine Bh (qwo D.g D.S m hm64 at_ f.t1 f.t2 f.wn hg 1 8 Q8F Q8F) λv ms hR=>?_
 obtain⟨rfl,rfl⟩:=hR
 repeat' (refine Ba ?_;first|refine Q4Z ?_|refine Q5d ?_|refine Q5m ?_|fail)
 refine Ba ?_
 refine Bb (qsw (D.se (upd D.S m ⟨(D.S m).a,Half.o⟩)) F T _ f.s f.t1 _ f.t2 _ _ now hF hC 1 2 3 (q0f _ _ _ _ _) _ Q8F Q8F Q8F Q8I) ?_
 repeat' (refine Ba ?_;first|refine Q4Z ?_|refine Q5d ?_|refine Q5m ?_|fail)
 refine Ba ?_
 exact jg1 rfl rfl rfl rfl rfl
open Go Go.RowKit Sx
def NdS.ta(D:NdS)(told asked seq:Int)(S:Nat->Ses):NdS:=⟨D.C,D.id,D.boot,D.g,S,seq,told,asked,D.bad⟩
def Tbl.get(T:Tbl)(k:Int):Ent:=(dGet T.E k).getD Ent.zero
def jq4(k:Int)(e:Ent):Frm:=⟨6,0,0,0,0,0,0,0,k,e.when_,e.x,e.y,e.a,e.b,e.d⟩
def jgn(D:NdS)(T:Tbl):Int×Bool:=jl1 D.told (jp7 T.E (·.has))
theorem nf{b:Bool}(h:b=false):(!b)=true:=by rw[h];rfl
structure On7(D:NdS)(T:Tbl)(now fine n l:Int)(S:List Ou)(cap i0 i1 i2 i3 i4 i5 i6 K:Nat)(h:Hp)(cf cm:Chunk):Prop where
 h0:h[i0]?=some (some (sdC i1 now fine (.slice (some ⟨i6,0,some 0⟩) S.length cap)))
 h1:h[i1]?=some (some (ndC D i2 i3 i4 i5))
 h2:h[i2]?=some (some cf)
 h3:h[i3]?=some (some (tblC T))
 h4:h[i4]?=some (some (twC n l))
 h5:h[i5]?=some (some cm)
 h6:h[i6]?=some (some (ouR S cap))
 hK:h[K]?=some none
 ne:[i0,i1,i2,i3,i4,i5,i6].Nodup
abbrev s7(D:NdS)(T:Tbl)(now fine n l:Int)(S:List Ou)(cap i0 i1 i2 i3 i4 i5 i6:Nat)(cf cm:Chunk)(D2:NdS):List jeo:=[⟨i0,sdC i1 now fine (.slice (some ⟨i6,0,some 0⟩) S.length cap),sdC 1 now fine (.slice (some ⟨6,0,some 0⟩) S.length cap),sdC i1 now fine (.slice (some ⟨i6,0,some 0⟩) S.length cap)⟩,⟨i1,ndC D i2 i3 i4 i5,ndC D 2 3 4 5,ndC D2 i2 i3 i4 i5⟩,⟨i2,cf,noC,noC⟩,⟨i3,tblC T,tblC T,tblC T⟩,⟨i4,twC n l,twC n l,twC n l⟩,⟨i5,cm,noC,noC⟩,⟨i6,ouR S cap,ouR S cap,ouR S cap⟩]
abbrev t7(D:NdS)(T:Tbl)(now fine n l:Int)(S:List Ou)(cap i0 i1 i2 i3 i4 i5 i6:Nat)(cf cm:Chunk):List jeo:=[⟨i0,sdC i1 now fine (.slice (some ⟨i6,0,some 0⟩) S.length cap),sdC 1 now fine (.slice (some ⟨6,0,some 0⟩) S.length cap),noC⟩,⟨i1,ndC D i2 i3 i4 i5,ndC D 2 3 4 5,noC⟩,⟨i2,cf,noC,noC⟩,⟨i3,tblC T,tblC T,tblC T⟩,⟨i4,twC n l,twC n l,noC⟩,⟨i5,cm,noC,noC⟩,⟨i6,ouR S cap,ouR S cap,noC⟩]
abbrev f7(S:List Ou)(x:Ou)(K sl:Nat)(κ:Option Nat):List jfb:=match κ with|none=>[]|some κ=>[⟨K,sl,ouR (S++[x]) κ⟩]
def jh0(D:NdS)(T:Tbl):Int:=(jl1 D.asked (jp7 T.E λ_=>true)).1
def jo3(k:Int):Frm:=⟨2,0,0,0,0,k,0,0,0,0,0,0,0,0,0⟩
@[reducible] def plSet(E:Ez)(p:Ent->Bool):EvS->Vz
 | .no r=>[(17,.int .i64 (r:Int)),(4,.slice none 0 0)]
 | .yes r c=>[(17,.int .i64 (r:Int)),(4,.slice (some ⟨8,0,some 0⟩) (evL E p r).length c)]
@[reducible] def plHs(E:Ez)(p:Ent->Bool):EvS->Mz
 | .no r=>[]
 | .yes r c=>[(8,rl (evL E p r) c)]
open Go Go.RowKit Sx
structure TlS where
 D:NdS
 l:Int
 o:Option Ou
def jo4(D:NdS)(l:Int)(T:Tbl)(now fine:Int):TlS:=
 if T.E=[] then ⟨D,l,none⟩
 else if (jgn D T).2=false then ⟨D,l,none⟩
 else if (jgn D T).1=D.id\/¬ (T.get (jgn D T).1).when_<=now then ⟨D.ta (jgn D T).1 D.asked D.seq D.S,l,none⟩
 else if l=0 then ⟨D.ta (jgn D T).1 D.asked D.seq D.S,l,none⟩
 else ⟨D.ta (jgn D T).1 D.asked (D.seq+1) D.S,l-1,some ⟨(jq4 (jgn D T).1 (T.get (jgn D T).1)).by (D.ta (jgn D T).1 D.asked D.seq D.S) now,fine⟩⟩
def jq5(D:NdS)(l:Int)(T:Tbl)(now fine:Int):TlS:=
 if T.E=[] then ⟨D,l,none⟩
 else if l=0 then ⟨D.ta D.told (jh0 D T) D.seq D.S,l,none⟩
 else ⟨D.ta D.told (jh0 D T) (D.seq+1) (upd D.S (jh0 D T).toNat ((D.S (jh0 D T).toNat).poll fine (D.boot*65536+D.seq))),l-1,some ⟨(jo3 (jh0 D T)).by (D.ta D.told (jh0 D T) D.seq D.S) now,fine⟩⟩
def jq6(r:TlS)(T:Tbl)(now fine n:Int)(S:List Ou)(cap:Nat)(i0 i1 i2 i3 i4 i5 i6 K:Nat)(v:Value)(ms:Mz):Prop:=
 v=.tuple #[]/\match r.o with
 | none=>ms=[(i0,sdC i1 now fine (.slice (some ⟨i6,0,some 0⟩) S.length cap)),(i1,ndC r.D i2 i3 i4 i5),(i3,tblC T),(i4,twC n r.l),(i6,ouR S cap)]
 | some x=>(S.length<cap/\ms=[(i0,sdC i1 now fine (.slice (some ⟨i6,0,some 0⟩) (S.length+1) cap)),(i1,ndC r.D i2 i3 i4 i5),(i3,tblC T),(i4,twC n r.l),(i6,ouR (S++[x]) cap)])\/
  ∃κ:Nat,S.length+1<=κ/\ms=[(i0,sdC i1 now fine (.slice (some ⟨K,0,some 0⟩) (S.length+1) κ)),(i1,ndC r.D i2 i3 i4 i5),(i3,tblC T),(i4,twC n r.l),(i6,ouR S cap),(K,ouR (S++[x]) κ)]
theorem rowN{r r':TlS}{now n:Int}{i6 K:Nat}{h:Hp}{g:FuncId}{rh:List Nat}(e:r'=r)(ho:r.o=none)(hc:qae prog g vs h (.tuple #[]) [(i0,sdC i1 now fine (.slice (some ⟨i6,0,some 0⟩) S.length cap)),(i1,ndC r.D i2 i3 i4 i5),(i3,tblC T),(i4,twC n r.l),(i6,ouR S cap)] rh):CallAll prog g vs h (jq6 r' T now fine n S cap i0 i1 i2 i3 i4 i5 i6 K):=Q4o
end Go.Proofs.YtfkngpmgcimdbaaGreat
