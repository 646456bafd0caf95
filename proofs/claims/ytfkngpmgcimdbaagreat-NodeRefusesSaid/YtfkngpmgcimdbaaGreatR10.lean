/-
  The walks of the document's numbers: plus, minus, times at any length.
-/
import Derived.Test.YtfkngpmgcimdbaaGreatR9
set_option linter.unusedVariables false
set_option linter.unusedSimpArgs false
set_option maxRecDepth 100000
set_option maxHeartbeats 20000000
open Go.IntKind
theorem Go.Proofs.yV:type_of% @Int.natCast_add:=@Int.natCast_add
open Go.Proofs.Tryz
namespace Go.Proofs
section
variable{Z Y:Prop}
theorem Q0e(h:Z:=by
 refine Q4k ?_;repeat' (refine Ba ?_;first|refine Q4Z ?_|refine Q6I ?_|refine Bb (ql6 _ _) ?_|refine Bb (ql7 _ _) ?_|refine Br _ (ql8 _ _ _ _ _ _ _ _ _ _ _ _ _ _ _ _ _ _ _ _ _ _ _ _ _ _ _) ?_|refine Q5d ?_|refine Q5m ?_|with_reducible refine Bi (λhb=>?_) (λhb=>?_)|fail)
 all_goals
  refine jfn ?_
  simp only[yG,yu,yc,yk,beq_eq_false_iff_ne,ne_eq,xh,xj,xz,false_iff,true_iff,iff_true,iff_false,reduceCtorEq,ya,xy,yb,xR,true_and,and_true,false_and,and_false] at *
  try omega):Z:=h
theorem Q0k(h:Z:=by repeat' (refine Ba ?_;first|refine Q4Z ?_|refine Q5n ?_|refine Q5V ?_|refine Bf (bne_eq_false_iff_eq.2 hsum9) ?_|refine Bm (qc6 (sz:=1) (g:=so+4) tysOK rfl rfl Q7R ⟨rfl,rfl⟩ Q8X Q8I (by show(4:Int)<((sn:Nat):Int);omega) rfl) ?_|refine Bm (qc6 (sz:=1) (g:=so+5) tysOK rfl rfl Q7R ⟨rfl,rfl⟩ Q8X Q8I (by show(5:Int)<((sn:Nat):Int);omega) rfl) ?_|refine Bm (qc6 (sz:=1) (g:=so+6) tysOK rfl rfl Q7R ⟨rfl,rfl⟩ Q8X Q8I (by show(6:Int)<((sn:Nat):Int);omega) rfl) ?_|refine Bm (qc6 (sz:=1) (g:=so+7) tysOK rfl rfl Q7R ⟨rfl,rfl⟩ Q8X Q8I (by show(7:Int)<((sn:Nat):Int);omega) rfl) ?_|refine Bm (qcn (i:=0) (R:=R) (v:=.int .u8 (bs.getD 4 0)) hz rfl rfl Q8F Q8X rfl (hcl 4 Q8E)) ?_|refine Bm (qcn (i:=0) (R:=R) (v:=.int .u8 (bs.getD 5 0)) hz rfl rfl Q8F Q8X rfl (hcl 5 Q8E)) ?_|refine Bm (qcn (i:=0) (R:=R) (v:=.int .u8 (bs.getD 6 0)) hz rfl rfl Q8F Q8X rfl (hcl 6 Q8E)) ?_|refine Bm (qcn (i:=0) (R:=R) (v:=.int .u8 (bs.getD 7 0)) hz rfl rfl Q8F Q8X rfl (hcl 7 Q8E)) ?_|refine Bb (qco W hz R _ bs hs Q8E 8 2 Q8E Q8E 0 _ Q8F) ?_|refine Bb (qco W hz R _ bs hs Q8E 10 2 Q8E Q8E 0 _ Q8F) ?_|refine Bb (qco W hz R _ bs hs Q8E 12 8 Q8E Q8E 0 _ Q8F) ?_|refine Bb (qco W hz R _ bs hs Q8E 20 8 Q8E Q8E 0 _ Q8F) ?_|refine Bb (qco W hz R _ bs hs Q8E 28 8 Q8E Q8E 0 _ Q8F) ?_|refine Bb (qco W hz R _ bs hs Q8E 36 8 Q8E Q8E 0 _ Q8F) ?_|refine Bb (qco W hz R _ bs hs Q8E 44 4 Q8E Q8E 0 _ Q8F) ?_|refine Bb (qco W hz R _ bs hs Q8E 48 4 Q8E Q8E 0 _ Q8F) ?_|refine Bb (qco W hz R _ bs hs Q8E 52 8 Q8E Q8E 0 _ Q8F) ?_|refine Bb (qco W hz R _ bs hs Q8E 60 8 Q8E Q8E 0 _ Q8F) ?_|refine Bb (qco W hz R _ bs hs Q8E 68 8 Q8E Q8E 0 _ Q8F) ?_|refine Bb (qvj (jmb bs) _) ?_|refine Bf (dcY hm) ?_|refine Bg (dcN hm) ?_|refine Q6t ?_|refine Q5x ?_|refine Bc Q7j ?_|refine Q5c ?_|exact Be|fail)):Z:=h
theorem Q0w(k:Y)(h:Wr Y->Z:=by
 intro kQ;repeat' (refine Ba ?_;first|refine Q55 ?_|refine Q53 ?_|refine Q54 ?_|fail)
 refine Ba ?_;exact kQ.o):Z:=h ⟨k⟩
theorem Q0y(h:Z:=by
 repeat' (refine Ba ?_;first|refine Q55 ?_|refine Q51 ?_|refine Bb (qdl _ _ _) ?_|refine Bb (qek _ _ Q8I _) ?_|refine Bg (xf Q92) ?_|refine Bf (xe Q92) ?_|fail)
 all_goals rfl):Z:=h
theorem Q17(h:Z:=by
 refine Q4k ?_;repeat' (refine Ba ?_;first|refine Q4Z ?_|refine Q6I ?_|refine Bb (jl9 _ _ _ _ _ _) ?_|refine Br _ (ql8 _ _ _ _ _ _ _ _ _ _ _ _ _ _ _ _ _ _ _ _ _ _ _ _ _ _ _) ?_|refine Bf (jrj hm) ?_|refine Q5d ?_|refine Q5m ?_|with_reducible refine Bi (λhb=>?_) (λhb=>?_)|fail)
 all_goals
  refine jfn ?_
  simp only[yG,yu,yc,yk,beq_eq_false_iff_ne,ne_eq,xh,xj,xz,false_iff,true_iff,iff_true,iff_false,reduceCtorEq,ya,xy,yb,xR,true_and,and_true,false_and,and_false] at *
  try omega):Z:=h
theorem Q1e(h:Z:=by
 rw[e1];repeat' (refine Ba ?_;first|refine Q55 ?_|refine Q51 ?_|refine Bg (by rw[e2];rfl) ?_|refine Bf (by simpa using e2) ?_|refine Q5T ?_|refine Q5U ?_|fail)
 all_goals rfl):Z:=h
theorem Q1q(h:Z:=by
 refine Q4k ?_;repeat' (refine Ba ?_;first|refine Q4Z ?_|refine Q6I ?_|refine Bb (jl9 _ _ _ _ _ _) ?_|refine Bg (jrk hm) ?_|refine Q5d ?_|refine Q5m ?_|with_reducible refine Bi (λhb=>?_) (λhb=>?_)|fail)
 all_goals rfl):Z:=h
theorem Q1u(h:Z:=by
 obtain rfl:k=bs.length:=by omega
 repeat' (refine Ba ?_;first|refine Q4Z ?_|refine N.notU ?_|refine Q5U ?_|refine Bn ?_|refine Q5x ?_|refine Bc Q7j ?_|refine Q5c ?_|exact Be|fail)):Z:=h
theorem Q1Q(k:Y)(h:Wr Y->Z:=by
 intro kQ;repeat' (refine Ba ?_;first|refine Q55 ?_|refine Q51 ?_|refine N.store _ (qcl rfl Q8E (by rw[ev0,w32,m1,hz];rfl)) ?_|refine Q6j ?_|refine Q6O ?_|refine Q5i ?_|refine Q5e ?_|fail)
 refine Ba ?_;exact kQ.o):Z:=h ⟨k⟩
theorem Q1Z(h:Z:=by repeat' (refine Ba ?_;first|refine Q4Z ?_|exact Be|refine Q5S ?_|refine Q6s ?_|refine Q6T ?_|refine Bc ⟨id,nlr _,qj0 λ_ _=>rfl⟩ ?_|fail)):Z:=h
theorem Q21(h:Z:=by repeat' (refine Ba ?_;first|refine Q4Z ?_|exact Be|refine Q5S ?_|refine Bc (.one .quo) ?_|refine Bc qdq ?_|refine Q6T ?_|refine Bc (qa9 (qa1 eS) rfl) ?_|fail)):Z:=h
theorem Q2a(k:Y)(h:Wr Y->Z:=by
 intro kQ;repeat' (refine Ba ?_;first|refine Q55 ?_|refine Q51 ?_|refine N.store _ (qcl rfl Q8E (by rw[ev,w32,m1])) ?_|refine Q6j ?_|refine Q6O ?_|refine Q5i ?_|fail)
 refine Ba ?_;exact kQ.o):Z:=h ⟨k⟩
theorem Q2b(h:Z:=by repeat' (refine Ba ?_;first|refine Q4Z ?_|exact Be|refine Q5S ?_|refine Q6T ?_|refine Bc qdq ?_|refine Bc (.one .quo) ?_|fail)):Z:=h
theorem Q2D(k:Y)(h:Wr Y->Z:=by
 intro kQ;repeat' (refine Ba ?_;first|refine Q4Z ?_|refine Q5T ?_|refine Bc (by rw[e8];omega) ?_|fail)
 refine Ba ?_;exact kQ.o):Z:=h ⟨k⟩
theorem Q2H(h:Z:=by repeat (refine Ba ?_;first|exact Be|refine Q57 ?_|refine Q5j ?_|refine Q6z ?_|refine Bc (jfi (by rw[ev0,jkq,m2,hz];rfl)) ?_|fail_if_success skip)):Z:=h
theorem Q2I(h:Z:=by repeat (refine Ba ?_;first|exact Be|refine Q57 ?_|refine Q5j ?_|refine Bc (by rw[qc8,yo];exact qjd) ?_|refine Bc (jfi (by rw[qc8,yo,yo];rfl)) ?_|fail_if_success skip)):Z:=h
theorem Q2J(h:Z:=by repeat (refine Ba ?_;first|exact Be|refine Q57 ?_|refine Q5j ?_|refine Q6z ?_|refine Bc (jfi (by rw[ev,jkq,m2])) ?_|fail_if_success skip)):Z:=h
theorem Q2Y(h:Z:=by
 rw[decide_eq_decide] at hs;rw[Bool.eq_iff_iff,xp,decide_eq_true_iff,decide_eq_true_iff,decide_eq_true_iff];omega):Z:=h
theorem Q3w(h:Z:=by
 rw[xv ha,xv hb,hcm];unfold lm;rw[xv ((xQ (qdk _)).2 (by rw[xm,<-qdr];exact hs))]):Z:=h
theorem Q3D(k:Y)(h:Wr Y->Z:=by
 intro kQ;refine Ba ?_;refine N.next (i+1) ⟨by show i+1<=nl a;omega,by show nl a-(i+1)<nl a-i;omega⟩ ?_;exact kQ.o):Z:=h ⟨k⟩
theorem Q4f(h:Z:=by
 show((jhg es++[none]).set es.length _)[es.length]?=_;rw[xG (by simp[jhg])]):Z:=h
theorem Q4k(k:Y)(h:Wr Y->Z:=by
 intro kQ;refine qac (G:=tys) w tysOK mixed func12 Q8F Q8F Q8F ?_;exact kQ.o):Z:=h ⟨k⟩
theorem Q4p(k:Y)(h:Wr Y->Z:=by
 intro kQ;refine Ba ?_;refine Bv ?_;refine Ba ?_;refine Bu [0,1,2,3,4,5] [(6,[7,8])] Q8J ?_;refine Q0w ?_;exact kQ.o):Z:=h ⟨k⟩
theorem Q4E(h:Z:=by
 rw[xT,xt hj] at this;exact this):Z:=h
theorem Q4Q(k:Y)(h:Wr Y->Z:=by
 intro kQ;refine Q0w ?_;refine Bv ?_;refine Ba ?_;exact kQ.o):Z:=h ⟨k⟩
theorem Q4T(h:Z:=by
 rw[e,zm _ _ hD,xK Q8E];omega):Z:=h
theorem Q53(k:Y)(h:Wr Y->Z:=by intro kQ;(first|with_reducible (first|refine N.eq ?_|refine Bc rfl ?_|refine Bc ⟨by kernel_rfl,by kernel_rfl⟩ ?_)|fail);exact kQ.o):Z:=h ⟨k⟩
theorem Q5V(k:Y)(h:Wr Y->Z:=by intro kQ;(first|refine Bf (dcY he) ?_|refine Bm (qbz (p:=0) (q:=76) (so+(if sc=0 then 0 else 0)) rfl rfl rfl ⟨_,_,rfl,⟨rfl,rfl⟩⟩ ⟨rfl,by omega⟩ rfl rfl) ?_|refine Bb (qco W hz R _ bs hs Q8E 76 4 Q8E Q8E 0 _ Q8F) ?_|refine Bb (qs4 W hz R _ (bs.take 76) (hs.takew 76 Q8E) Q9O Q9O 0 _ Q8F) ?_|fail);exact kQ.o):Z:=h ⟨k⟩
theorem Q6i(k:Y)(h:Wr Y->Z:=by intro kQ;(first|refine Bc (jin Q8F rfl) ?_|refine Bc ⟨⟨by show 2<=6;decide,qhm Q8F rfl Q9e⟩,xb⟩ ?_|fail);exact kQ.o):Z:=h ⟨k⟩
theorem Q6n(k:Y)(h:Wr Y->Z:=by intro kQ;(first|refine Bj i 1 Q9j Q8E ?_|fail);exact kQ.o):Z:=h ⟨k⟩
theorem Q6v(k:Y)(h:Wr Y->Z:=by intro kQ;(first|refine Bp 1 ?_|refine Bf (by rw[ha0];rfl) ?_|refine Bb (jh1 0 0 0 _ _ _ Q8F q6g (nlr _) Q8E (by rw[qc8];decide)) ?_|refine Bn ?_|refine Bc (jin Q8F (by rw[qea])) ?_|fail);exact kQ.o):Z:=h ⟨k⟩
theorem Q6C(k:Y)(h:Wr Y->Z:=by intro kQ;(first|refine Bc (jfi Q9k) ?_|fail);exact kQ.o):Z:=h ⟨k⟩
theorem Q6E(k:Y)(h:Wr Y->Z:=by intro kQ;(first|refine Bb (qvi _ κ 5 Q8F (yt.2 rfl)) ?_|fail);exact kQ.o):Z:=h ⟨k⟩
theorem Q6F(k:Y)(h:Wr Y->Z:=by intro kQ;(first|refine Bb (qdl _ _ _) ?_|refine Bb (qek _ _ Q8I _) ?_|refine Bb (q6k (a*d-b*b) _ _ _ _ hκ _) ?_|refine Bg (xf Q92) ?_|fail);exact kQ.o):Z:=h ⟨k⟩
theorem Q6I(k:Y)(h:Wr Y->Z:=by intro kQ;(first|refine Bb (jpi _ _) ?_|refine Bb (qjf _ _) ?_|refine Bb (qje _ _) ?_|fail);exact kQ.o):Z:=h ⟨k⟩
theorem Q6O(k:Y)(h:Wr Y->Z:=by intro kQ;(first|refine Bl _ (qb4 (p:=i) Q8E Q8E) ?_|fail);exact kQ.o):Z:=h ⟨k⟩
theorem Q6W(k:Y)(h:Wr Y->Z:=by intro kQ;(first|refine Bc ⟨⟨.inl rfl,.inl rfl,xb⟩,⟨.inr ⟨_,by rfl,rfl⟩,xb⟩⟩ ?_|refine Bc xb ?_|fail);exact kQ.o):Z:=h ⟨k⟩
theorem Q7u(h:Z:=by first|exact .ch ((hh 1 Q8P).trans rfl) (je7 _ _ _) h2.len h2.cap|fail):Z:=h
theorem Q7B(h:Z:=by first|exact .ch ((hh 0 Q8P).trans rfl) (je7 _ _ _) h1.len h1.cap|fail):Z:=h
theorem Q81(h:Z:=by first|exact ⟨.sl rfl,.sl rfl,xb⟩|fail):Z:=h
theorem Q88(h:Z:=by first|exact jid (D:=s.nd g) (f:=1) (t:=2) (b:=3) (m:=4) (f':=1) (t':=2) (b':=3) (m':=4) Q8F Q8F Q8F Q8F|fail):Z:=h
theorem Q8O(h:Z:=by simp only[yr,qbd,yZ,List.length_nil];omega):Z:=h
theorem Q9e(h:Z:=by rw[he];exact je7 _ _ _):Z:=h
theorem Q9j(h:Z:=by first|rfl|exact jfv _ Q8E Q8E|(rw[jfv _ Q8E Q8E];omega)):Z:=h
theorem Q9k(h:Z:=by rw[jfv _ Q8E Q8E];rfl):Z:=h
end
end Go.Proofs

namespace Go.Proofs.YtfkngpmgcimdbaaGreat
open Go Go.RowKit Sx
theorem q1c(p q k j:Nat):lm (p%bw k+q / bw k*bw k) j=if j<k then lm p j else lm q j:=by
 by_cases h:j<k
 .rw[if_pos h,jd3 _ h,qkb h]
 .rw[if_neg h];have h1:lm (p%bw k+q / bw k*bw k) j=lm (q / bw k*bw k) j:=by
   unfold lm;obtain⟨d,rfl⟩:∃d,j=k+d:=⟨j-k,by omega⟩;rw[qka,<-xU,<-xU,zm _ _ (qdk k),xK (xo _ (qdk k)),xr,zv _ (qdk k)]
  rw[h1,q97,if_pos Q8E]
theorem qwt{m p p' q k r:Nat}{x:Int}(e:r=k)(h:k<m)(hx:x=((lm p' k:Nat):Int))(hp:p'%bw k=p%bw k):Writes (je2 true m (p%bw k+q / bw k*bw k)) r 1 (.int .u32 x) (je2 true m (p'%bw (k+1)+q / bw (k+1)*bw (k+1))):=by
 subst e hx;refine⟨rfl,by show r+1<=m;omega,rfl,λj hj=>?_⟩;have hj:j<m:=hj;rw[qbk hj,qbk hj,q1c,q1c];rcases Nat.lt_trichotomy j r with h1|h1|h1
 .rw[if_neg (show ¬ (r<=j/\j<r+1) by omega),if_pos (show j<r+1 by omega),if_pos h1,<-qkb h1,hp,qkb h1]
 .subst h1;rw[if_pos (show j<=j/\j<j+1 by omega),if_pos (show j<j+1 by omega),Nat.sub_self];rfl
 .rw[if_neg (show ¬ (r<=j/\j<r+1) by omega),if_neg (show ¬ j<r+1 by omega),if_neg (show ¬ j<r by omega)]
theorem q98(a b:Nat):a*b<bw (nl a+nl b)\/a*b=0:=by
 rcases xS (a*b) with h|h
 .exact .inr h
 .left;rw[qka];have ha:=qb1 a;have hb:=qb1 b;have hb0:0<b:=Nat.pos_of_ne_zero λe=>by rw[e,Nat.mul_zero] at h;omega
  exact xl (yN ha hb0) (yM _ (Nat.le_of_lt hb))
theorem qo0(a b:Nat):a*b<bw (nl a+nl b):=by
 rcases q98 a b with h|h
 .exact h
 .rw[h];exact qdk _
theorem q4t(S x b i j C:Nat)(hx:x<4294967296)(hC:C<4294967296)(h:(S+x*(b%bw j)*bw i) / bw (i+j)=C+S / bw (i+j)):
  lm (S+x*(b%bw (j+1))*bw i) (i+j)=(C+(x*lm b j+lm S (i+j)))%4294967296/\
  (S+x*(b%bw (j+1))*bw i) / bw (i+j+1)=(C+(x*lm b j+lm S (i+j))) / 4294967296+S / bw (i+j+1)/\
  C+(x*lm b j+lm S (i+j))<18446744073709551616/\(C+(x*lm b j+lm S (i+j))) / 4294967296<4294967296/\
  (S+x*(b%bw (j+1))*bw i)%bw (i+j)=(S+x*(b%bw j)*bw i)%bw (i+j):=by
 have hb:=jfg b j
 have hS:=jfg S (i+j)
 have hxy:x*lm b j<=4294967295*4294967295:=ym Q8E Q8E
 have hV:S+x*(b%bw (j+1))*bw i=(S+x*(b%bw j)*bw i)+x*lm b j*bw (i+j):=by
  rw[qhl,yH,xO,qka,xm (bw i) (bw j),<-x5,<-x5,yi]
 have hd:(S+x*(b%bw (j+1))*bw i) / bw (i+j)=(C+(x*lm b j+lm S (i+j)))+S / bw (i+j+1)*4294967296:=by
  rw[hV,zm _ _ (qdk _),h,qoy S (i+j)];omega
 refine⟨?_,?_,by omega,by omega,?_⟩
 .show(S+x*(b%bw (j+1))*bw i) / bw (i+j)%4294967296=_;rw[hd,zq]
 .rw[qdr (i+j),<-xU,hd,zm _ _ Q8I,<-qdr]
 .rw[hV,zq]
def brw(a b i:Nat):Int:=if a%bw i<b%bw i then -1 else 0
theorem q4u(a b i:Nat)(h:b<=a):((brw a b i+(lm a i:Nat))-(lm b i:Nat))%4294967296=(lm (a-b) i:Nat)/\((brw a b i+(lm a i:Nat))-(lm b i:Nat)).fdiv 4294967296=brw a b (i+1)/\-1<=brw a b i/\brw a b i<=0:=by
 have hD:=qdk i;have ha:=xu a (bw i);have hb:=xu b (bw i);have hA:=xo a hD;have hB:=xo b hD;have hqq:∀{x y:Nat},x<y->bw i*x+bw i<=bw i*y:=λ{x y} hxy=>by
  have:=yM (bw i) (show x+1<=y by omega)
  rwa[yH,x6] at this
 have key:(((a-b) / bw i:Nat):Int)=brw a b i+((a / bw i:Nat):Int)-((b / bw i:Nat):Int):=by
  unfold brw;generalize a / bw i=qa at *;generalize b / bw i=qb at *;generalize a%bw i=A at *;generalize b%bw i=B at *;by_cases hlt:A<B
  .rw[if_pos hlt];have hq:qb<qa:=by
    refine Nat.lt_of_not_le λhle=>?_
    have:bw i*qa<=bw i*qb:=yM _ hle;omega
   have e:a-b=(bw i+A-B)+(qa-qb-1)*bw i:=by
    obtain⟨d,rfl⟩:∃d,qa=qb+1+d:=⟨qa-(qb+1),by omega⟩;rw[show qb+1+d-qb-1=d by omega,xm d];rw[yH,yH,x6] at ha;omega
   exact Q4T
  .rw[if_neg hlt];have hq:qb<=qa:=by
    refine Nat.le_of_not_lt λhle=>?_
    have:=hqq hle;omega
   have e:a-b=(A-B)+(qa-qb)*bw i:=by
    obtain⟨d,rfl⟩:∃d,qa=qb+d:=⟨qa-qb,by omega⟩;rw[show qb+d-qb=d by omega,xm d];rw[yH] at ha;omega
   exact Q4T
 have hb1 : -1<=brw a b i/\brw a b i<=0:=by unfold brw;split<;>omega
 have hx:=jfg a i;have hy:=jfg b i;refine⟨?_,?_,hb1.1,hb1.2⟩
 .unfold lm at hx hy ⊢;omega
 .have h1:brw a b (i+1)=if a%bw i+lm a i*bw i<b%bw i+lm b i*bw i then -1 else 0:=by
   unfold brw;rw[qhl,qhl]
  rw[h1];unfold brw at hb1 ⊢;generalize a%bw i=A at *;generalize b%bw i=B at *;generalize lm a i=x at *;generalize lm b i=y at *;have hf:∀z:Int,z.fdiv 4294967296=z / 4294967296:=λz=>zk _ Q8I
  rw[hf];rcases Nat.lt_trichotomy x y with hxy|hxy|hxy
  .have:=hqq hxy;rw[if_pos (show A+x*bw i<B+y*bw i by rw[xm x,xm y];omega)];split<;>omega
  .subst hxy;by_cases hlt:A<B
   .rw[if_pos hlt,if_pos Q8E];omega
   .rw[if_neg hlt,if_neg Q8E];omega
  .have:=hqq hxy;rw[if_neg (show ¬ A+x*bw i<B+y*bw i by rw[xm x,xm y];omega)];split<;>omega
theorem q99(a b m q i j K:Nat)(o o2:Chunk)(h:Hp)(hi:h[i]?=some (some o))(hin:je4 o m a)(hj:h[j]?=some (some o2))(hjn:je4 o2 q b)(hl:nl a<=m)(hm:m<=31)(hl2:nl b<=q)(hq:q<=31)(hp:0<nl a+nl b)(h0:h[K]?=some none):
  qae prog 135 [.slice (some ⟨i,0,some 0⟩) (nl a) m,.slice (some ⟨j,0,some 0⟩) (nl b) q] h (.slice (some ⟨K,0,some 0⟩) (nl (a*b)) (nl a+nl b)) [(K,je2 true (nl a+nl b) (a*b))] [i,j]:=by
 have hab:=qo0 a b
 refine qak (G:=tys) [⟨i,_,je2 false m a,⟨false,0,[]⟩⟩,⟨j,_,je2 false q b,⟨false,0,[]⟩⟩] [⟨K,10,je2 true (nl a+nl b) (a*b)⟩] [.slice (some ⟨0,0,some 0⟩) (nl a) m,.slice (some ⟨1,0,some 0⟩) (nl b) q] tysOK mixed func135 Q8F (call135) ⟨hi,hj,xb⟩ Q7b Q8K ⟨⟨h0,rfl,by show 0<nl a+nl b;exact hp,by simp⟩,xb⟩ Q7L ?_
 repeat' (refine Ba ?_;first|refine Q55 ?_|refine Q51 ?_|refine MakeN.mk1 (nl a+nl b) (nl a+nl b) Q9k Q9k (by show 4*(nl a+nl b)<=_;omega) Q8E (x6 _).symm ?_|fail)
 refine Ba ?_
 refine Bo (α:=Nat) (λi=>i<=nl a) (λi=>nl a-i) (λi=>[(19,xc (i:Int))]) (λi=>[(10,je2 true (nl a+nl b) (a%bw i*b))]) 0 (xn _) ?_ ?_
 .repeat (refine Ba ?_;first|exact Be|refine Q57 ?_|refine Q5j ?_|refine Bc (by rw[qc8,yo,yw];exact qjd) ?_|fail_if_success skip)
 .intro i hi';have hi':i<=nl a:=hi';rcases xP i (nl a) with hlt|hge
  .have hx:=jfg a i;have hSlt:a%bw i*b<bw (i+nl b):=by
    rw[qka];rcases xS b with e|e
    .subst e;rw[Nat.mul_zero];exact zc (qdk _) (qdk _)
    .exact xl (yN (xo _ (qdk i)) e) (yM _ (Nat.le_of_lt (qb1 b)))
   have hV:a%bw (i+1)*b=a%bw i*b+lm a i*(b%bw (nl b))*bw i:=by
    rw[qhl,xO,xv (qb1 b),zg]
   have hVlt:a%bw (i+1)*b<bw (i+nl b+1):=by
    have hbb:=qka (i+1) (nl b);rw[show i+nl b+1=(i+1)+nl b by omega,hbb];rcases xS b with e|e
    .rw[e,Nat.mul_zero];exact zc (qdk _) (qdk _)
    .exact xl (yN (xo _ (qdk _)) e) (yM _ (Nat.le_of_lt (qb1 b)))
   generalize hS:a%bw i*b=S at *;generalize hX:lm a i=x at *;repeat' (refine Ba ?_;first|refine Q55 ?_|refine Q51 ?_|refine Q6n ?_|refine Bl (.int .u32 ((x:Nat):Int)) (by rw[<-hX];exact qb4 (p:=i) Q8E Q8E) ?_|refine Q5i ?_|fail)
   refine Ba ?_;refine Bo (α:=Nat×Nat) (λs=>s.1<=nl b/\s.2<4294967296/\(S+x*(b%bw s.1)*bw i) / bw (i+s.1)=s.2+S / bw (i+s.1)) (λs=>nl b-s.1) (λs=>[(26,xc (s.1:Int)),(8,.int .u64 (s.2:Int))]) (λs=>[(10,je2 true (nl a+nl b) ((S+x*(b%bw s.1)*bw i)%bw (i+s.1)+S / bw (i+s.1)*bw (i+s.1)))]) (0,0) ⟨xn _,by decide,by rw[qc8,yo,Nat.mul_zero,yw,xZ,xr]⟩ ?_ ?_
   .repeat (refine Ba ?_;first|exact Be|refine Q57 ?_|refine Q5j ?_|refine Bc (by rw[qc8,yo,Nat.mul_zero,yw,xZ,xZ,Nat.mod_add_div' ];exact ChunkLe.refl _) ?_|fail_if_success skip)
   .rintro⟨j,C⟩ ⟨hj',hC,hrel⟩;have hj':j<=nl b:=hj';have hC:C<4294967296:=hC;have hrel:(S+x*(b%bw j)*bw i) / bw (i+j)=C+S / bw (i+j):=hrel;rcases xP j (nl b) with hjl|hjg
    .obtain⟨m1,m2,m3,m4,m5⟩:=q4t S x b i j C hx hC hrel;have hy:=jfg b j;have hz:=jfg S (i+j);have hold:lm ((S+x*(b%bw j)*bw i)%bw (i+j)+S / bw (i+j)*bw (i+j)) (i+j)=lm S (i+j):=by rw[q1c,if_neg (Nat.lt_irrefl _)]
     have hxy:x*lm b j<=4294967295*4294967295:=ym Q8E Q8E;have ev:IntKind.u64.wrap ((C:Int)+IntKind.u64.wrap (IntKind.u64.wrap (IntKind.u64.wrap ((x:Nat):Int)*IntKind.u64.wrap ((lm b j:Nat):Int))+IntKind.u64.wrap ((lm ((S+x*(b%bw j)*bw i)%bw (i+j)+S / bw (i+j)*bw (i+j)) (i+j):Nat):Int)))=((C+(x*lm b j+lm S (i+j)):Nat):Int):=by
      rw[hold,w64 (n:=x) Q8E,w64 (n:=lm b j) Q8E,w64 (n:=lm S (i+j)) Q8E,<-yh,w64 (n:=x*lm b j) Q8E,<-yV,w64 (n:=x*lm b j+lm S (i+j)) Q8E,<-yV,w64 m3]
     generalize hT:C+(x*lm b j+lm S (i+j))=T at *;repeat' (refine Ba ?_;first|refine Q55 ?_|refine Q51 ?_|refine Bj j 1 Q9j Q8E ?_|refine Bl _ (qb4 (p:=j) Q8E Q8E) ?_|refine Bj (i+j) 1 Q9j Q8E ?_|refine Bl _ (qb4 (p:=i+j) Q8E Q8E) ?_|refine N.store _ (qwt (p':=S+x*(b%bw (j+1))*bw i) Q8E Q8E (by rw[ev,w32,m1]) m5) ?_|refine Q5i ?_|fail)
     refine Ba ?_;refine N.next ((j+1,T / 4294967296):Nat×Nat) ⟨⟨by show j+1<=nl b;omega,m4,m2⟩,by show nl b-(j+1)<nl b-j;omega⟩ ?_;repeat (refine Ba ?_;first|exact Be|refine Q57 ?_|refine Q5j ?_|refine Q6C ?_|refine Bc (jfi (by rw[ev,jkq])) ?_|fail_if_success skip)
    .obtain rfl:j=nl b:=by omega
     have hq0:S / bw (i+nl b)=0:=xK hSlt;have hCe:(C:Int)=((lm (a%bw (i+1)*b) (i+nl b):Nat):Int):=by
      rw[hq0,xZ,<-hV] at hrel;unfold lm;rw[hrel,xv hC]
     have hch:(S+x*(b%bw (nl b))*bw i)%bw (i+nl b)+S / bw (i+nl b)*bw (i+nl b)=(a%bw (i+1)*b)%bw (i+nl b):=by rw[hq0,yw,xZ,<-hV]
     have hme:a%bw (i+1)*b=a%bw (i+1)*b%bw (i+nl b+1):=(xv hVlt).symm;rw[hch];repeat' (refine Ba ?_;first|refine Q55 ?_|refine Q51 ?_|refine Bj (i+nl b) 1 Q9j Q8E ?_|refine N.store _ (qcl (v:=a%bw (i+1)*b) Q8E Q8E (by rw[w32,xv hC];exact hCe)) ?_|refine Q5e ?_|fail)
     refine Q3D ?_;repeat (refine Ba ?_;first|exact Be|refine Q57 ?_|refine Q5j ?_|refine Q6C ?_|refine Bc (by rw[<-hme];exact ChunkLe.refl _) ?_|fail_if_success skip)
  .obtain rfl:i=nl a:=by omega
   have he:a%bw (nl a)*b=a*b:=by rw[xv (qb1 a)]
   repeat' (refine Ba ?_;first|refine Q55 ?_|refine Q51 ?_|refine Bb (jh1 (a*b) (nl a+nl b) (nl a+nl b) _ _ _ Q8F Q9e Q8E Q8E hab) ?_|refine Bc (jin Q8F rfl) ?_|refine Bc ⟨⟨by show 2<=10;decide,qhm Q8F rfl Q9e⟩,xb⟩ ?_|refine Q5e ?_|refine Bc xb ?_|exact Be|fail)
theorem jd5(a b m q i j K:Nat)(o o2:Chunk)(h:Hp)(hi:h[i]?=some (some o))(hin:je4 o m a)(hj:h[j]?=some (some o2))(hjn:je4 o2 q b)(hl:nl a<=m)(hm:m<=31)(hl2:nl b<=q)(hq:q<=31)(hba:b<=a)(hp:0<nl a)(h0:h[K]?=some none):
  qae prog 162 [.slice (some ⟨i,0,some 0⟩) (nl a) m,.slice (some ⟨j,0,some 0⟩) (nl b) q] h (.slice (some ⟨K,0,some 0⟩) (nl (a-b)) (nl a)) [(K,je2 true (nl a) (a-b))] [i,j]:=by
 have hs:a-b<bw (nl a):=xM (Nat.sub_le _ _) (qb1 a)
 refine qak (G:=tys) [⟨i,_,je2 false m a,⟨false,0,[]⟩⟩,⟨j,_,je2 false q b,⟨false,0,[]⟩⟩] [⟨K,6,je2 true (nl a) (a-b)⟩] [.slice (some ⟨0,0,some 0⟩) (nl a) m,.slice (some ⟨1,0,some 0⟩) (nl b) q] tysOK mixed func162 Q8F (call162) ⟨hi,hj,xb⟩ Q7b Q8K ⟨⟨h0,rfl,by show 0<nl a;exact hp,by simp⟩,xb⟩ Q7L ?_
 repeat' (refine Ba ?_;first|refine Q55 ?_|refine Q51 ?_|refine MakeN.mk1 (nl a) (nl a) rfl rfl (by show 4*(nl a)<=_;omega) Q8E (x6 _).symm ?_|fail)
 refine Ba ?_
 refine Bo (α:=Nat) (λi=>i<=nl a) (λi=>nl a-i) (λi=>[(13,xc (i:Int)),(6,xc (brw a b i))]) (λi=>[(6,je2 true (nl a) ((a-b)%bw i))]) 0 (xn _) ?_ ?_
 .repeat (refine Ba ?_;first|exact Be|refine Q57 ?_|refine Q5j ?_|refine Bc (by rw[qc8,yo];exact qjd) ?_|refine Bc (jfi (by unfold brw;rw[qc8,yo,yo];rfl)) ?_|fail_if_success skip)
 .intro i hi';have hi':i<=nl a:=hi';rcases xP i (nl a) with hlt|hge
  .obtain⟨m1,m2,m3,m4⟩:=q4u a b i hba;have hx:=jfg a i;have hy:=jfg b i;have hsh:∀z:Int,z.fdiv (2^sh 32 IntKind.i64)=z.fdiv 4294967296:=λz=>rfl
   generalize hc0:brw a b i=C at *;have ev:IntKind.i64.wrap (IntKind.i64.wrap (C+IntKind.i64.wrap ((lm a i:Nat):Int))-IntKind.i64.wrap ((lm b i:Nat):Int))=C+(lm a i:Nat)-(lm b i:Nat):=by
    rw[jfv (lm a i:Nat) Q8E Q8E,jfv (lm b i:Nat) Q8E Q8E,jfv (C+(lm a i:Nat)) Q8E Q8E,jfv _ Q8E Q8E]
   rcases xP i (nl b) with hib|hib
   .repeat' (refine Ba ?_;first|refine Q55 ?_|refine Q51 ?_|refine Q6n ?_|refine Q6O ?_|refine N.store _ (qcl rfl Q8E (by rw[ev,wrap_u32,m1])) ?_|refine Q5i ?_|fail)
    refine Q3D ?_;repeat (refine Ba ?_;first|exact Be|refine Q57 ?_|refine Q5j ?_|refine Q6C ?_|refine Bc (jfi (by rw[ev,hsh,m2])) ?_|fail_if_success skip)
   .have hz:lm b i=0:=qm7 (xl (qb1 b) (qjv hib));have ev0:IntKind.i64.wrap (C+IntKind.i64.wrap ((lm a i:Nat):Int))=C+(lm a i:Nat)-(lm b i:Nat):=by
     rw[hz,jfv (lm a i:Nat) Q8E Q8E,jfv _ Q8E Q8E];omega
    repeat' (refine Ba ?_;first|refine Q55 ?_|refine Q51 ?_|refine Q6n ?_|refine Q6O ?_|refine N.store _ (qcl rfl Q8E (by rw[ev0,wrap_u32,m1])) ?_|refine Q5i ?_|refine Q5e ?_|fail)
    refine Q3D ?_;repeat (refine Ba ?_;first|exact Be|refine Q57 ?_|refine Q5j ?_|refine Q6C ?_|refine Bc (jfi (by rw[ev0,hsh,m2])) ?_|fail_if_success skip)
  .obtain rfl:i=nl a:=by omega
   have he:(a-b)%bw (nl a)=a-b:=xv hs;repeat' (refine Ba ?_;first|refine Q55 ?_|refine Q51 ?_|refine Bb (jh1 (a-b) (nl a) (nl a) _ _ _ Q8F Q9e Q8E Q8E hs) ?_|refine Q6i ?_|refine Q5e ?_|refine Bc xb ?_|exact Be|fail)
theorem jd6(a b m q i j K:Nat)(o o2:Chunk)(h:Hp)(hi:h[i]?=some (some o))(hin:je4 o m a)(hj:h[j]?=some (some o2))(hjn:je4 o2 q b)(hl:nl a<=m)(hm:m<=31)(hl2:nl b<=q)(hq:q<=31)(hba:nl b<=nl a)(h0:h[K]?=some none):
  qae prog 160 [.slice (some ⟨i,0,some 0⟩) (nl a) m,.slice (some ⟨j,0,some 0⟩) (nl b) q] h (.slice (some ⟨K,0,some 0⟩) (nl (a+b)) (nl a+1)) [(K,je2 true (nl a+1) (a+b))] [i,j]:=by
 have hs:a+b<bw (nl a+1):=by
  rw[qdr];have h1:=qb1 a;have h2:=nl_le.1 (show nl b<=nl a by omega);omega
 refine qak (G:=tys) [⟨i,_,je2 false m a,⟨false,0,[]⟩⟩,⟨j,_,je2 false q b,⟨false,0,[]⟩⟩] [⟨K,6,je2 true (nl a+1) (a+b)⟩] [.slice (some ⟨0,0,some 0⟩) (nl a) m,.slice (some ⟨1,0,some 0⟩) (nl b) q] tysOK mixed func160 Q8F (call160) ⟨hi,hj,xb⟩ Q7b Q8K ⟨⟨h0,rfl,by show 0<nl a+1;omega,by simp⟩,xb⟩ Q7L ?_
 repeat' (refine Ba ?_;first|refine Q55 ?_|refine Q51 ?_|refine MakeN.mk1 (nl a+1) (nl a+1) Q9k Q9k (by show 4*(nl a+1)<=_;omega) Q8E (x6 _).symm ?_|refine Q5e ?_|fail)
 refine Ba ?_
 refine Bo (α:=Nat) (λi=>i<=nl a) (λi=>nl a-i) (λi=>[(21,xc (i:Int)),(6,.int .u64 (((a%bw i+b%bw i) / bw i:Nat):Int))]) (λi=>[(6,je2 true (nl a+1) ((a+b)%bw i))]) 0 (xn _) ?_ ?_
 .exact Q2I
 .intro i hi';have hi':i<=nl a:=hi';have hcm:a+b=a+b:=by omega
  rcases xP i (nl a) with hlt|hge
  .obtain⟨m1,m2,m3⟩:=qve a b i;rw[hcm] at m1;generalize hC:(a%bw i+b%bw i) / bw i=C at *;have hx:=jfg a i;have hy:=jfg b i;have ev:IntKind.u64.wrap (IntKind.u64.wrap ((C:Int)+IntKind.u64.wrap ((lm a i:Nat):Int))+IntKind.u64.wrap ((lm b i:Nat):Int))=((C+lm a i+lm b i:Nat):Int):=by
    rw[w64 (n:=lm a i) Q8E,w64 (n:=lm b i) Q8E,<-yV,w64 (n:=C+lm a i) Q8E,<-yV,w64 Q8E]
   have ev0:IntKind.u64.wrap ((C:Int)+IntKind.u64.wrap ((lm a i:Nat):Int))=((C+lm a i:Nat):Int):=by
    rw[w64 (n:=lm a i) Q8E,<-yV,w64 (n:=C+lm a i) Q8E]
   rcases xP i (nl b) with hib|hib
   .refine Q2a ?_;refine N.next (i+1) ⟨by show i+1<=nl a;omega,by omega⟩ ?_;exact Q2J
   .have hz:lm b i=0:=qm7 (xl (qb1 b) (qjv hib));refine Q1Q ?_;refine N.next (i+1) ⟨by show i+1<=nl a;omega,by omega⟩ ?_;exact Q2H
  .obtain rfl:i=nl a:=by omega
   have ha:=qb1 a;have hb:=nl_le.1 (show nl b<=nl a by omega);have hc:((a%bw (nl a)+b%bw (nl a)) / bw (nl a))=lm (a+b) (nl a):=Q3w;have hlt:=jfg (a+b) (nl a);have he:(a+b)%bw (nl a+1)=a+b:=xv hs;repeat' (refine Ba ?_;first|refine Q55 ?_|refine Q51 ?_|refine Bj (nl a) 1 rfl Q8E ?_|refine N.store _ (qcl rfl Q8E (by rw[w32,hc];omega)) ?_|refine Bb (jh1 (a+b) (nl a+1) (nl a+1) _ _ _ Q8F Q9e Q8E Q8E hs) ?_|refine Q6i ?_|refine Q5e ?_|refine Bc xb ?_|exact Be|fail)
theorem jd7(a b m q i j K:Nat)(o o2:Chunk)(h:Hp)(hi:h[i]?=some (some o))(hin:je4 o m a)(hj:h[j]?=some (some o2))(hjn:je4 o2 q b)(hl:nl a<=m)(hm:m<=31)(hl2:nl b<=q)(hq:q<=31)(hba:nl a<nl b)(h0:h[K]?=some none):
  qae prog 160 [.slice (some ⟨i,0,some 0⟩) (nl a) m,.slice (some ⟨j,0,some 0⟩) (nl b) q] h (.slice (some ⟨K,0,some 0⟩) (nl (a+b)) (nl b+1)) [(K,je2 true (nl b+1) (a+b))] [i,j]:=by
 have hs:a+b<bw (nl b+1):=by
  rw[qdr];have h1:=qb1 b;have h2:=nl_le.1 (show nl a<=nl b by omega);omega
 refine qak (G:=tys) [⟨i,_,je2 false m a,⟨false,0,[]⟩⟩,⟨j,_,je2 false q b,⟨false,0,[]⟩⟩] [⟨K,6,je2 true (nl b+1) (a+b)⟩] [.slice (some ⟨0,0,some 0⟩) (nl a) m,.slice (some ⟨1,0,some 0⟩) (nl b) q] tysOK mixed func160 Q8F (call160) ⟨hi,hj,xb⟩ Q7b Q8K ⟨⟨h0,rfl,by show 0<nl b+1;omega,by simp⟩,xb⟩ Q7L ?_
 repeat' (refine Ba ?_;first|refine Q55 ?_|refine Q51 ?_|refine MakeN.mk1 (nl b+1) (nl b+1) Q9k Q9k (by show 4*(nl b+1)<=_;omega) Q8E (x6 _).symm ?_|refine Q5i ?_|fail)
 refine Ba ?_
 refine Bo (α:=Nat) (λi=>i<=nl b) (λi=>nl b-i) (λi=>[(21,xc (i:Int)),(6,.int .u64 (((b%bw i+a%bw i) / bw i:Nat):Int))]) (λi=>[(6,je2 true (nl b+1) ((a+b)%bw i))]) 0 (xn _) ?_ ?_
 .exact Q2I
 .intro i hi';have hi':i<=nl b:=hi';have hcm:b+a=a+b:=by omega
  rcases xP i (nl b) with hlt|hge
  .obtain⟨m1,m2,m3⟩:=qve b a i;rw[hcm] at m1;generalize hC:(b%bw i+a%bw i) / bw i=C at *;have hx:=jfg b i;have hy:=jfg a i;have ev:IntKind.u64.wrap (IntKind.u64.wrap ((C:Int)+IntKind.u64.wrap ((lm b i:Nat):Int))+IntKind.u64.wrap ((lm a i:Nat):Int))=((C+lm b i+lm a i:Nat):Int):=by
    rw[w64 (n:=lm b i) Q8E,w64 (n:=lm a i) Q8E,<-yV,w64 (n:=C+lm b i) Q8E,<-yV,w64 Q8E]
   have ev0:IntKind.u64.wrap ((C:Int)+IntKind.u64.wrap ((lm b i:Nat):Int))=((C+lm b i:Nat):Int):=by
    rw[w64 (n:=lm b i) Q8E,<-yV,w64 (n:=C+lm b i) Q8E]
   rcases xP i (nl a) with hib|hib
   .refine Q2a ?_;refine N.next (i+1) ⟨by show i+1<=nl b;omega,by omega⟩ ?_;exact Q2J
   .have hz:lm a i=0:=qm7 (xl (qb1 a) (qjv hib));refine Q1Q ?_;refine N.next (i+1) ⟨by show i+1<=nl b;omega,by omega⟩ ?_;exact Q2H
  .obtain rfl:i=nl b:=by omega
   have ha:=qb1 b;have hb:=nl_le.1 (show nl a<=nl b by omega);have hc:((b%bw (nl b)+a%bw (nl b)) / bw (nl b))=lm (a+b) (nl b):=Q3w;have hlt:=jfg (a+b) (nl b);have he:(a+b)%bw (nl b+1)=a+b:=xv hs;repeat' (refine Ba ?_;first|refine Q55 ?_|refine Q51 ?_|refine Bj (nl b) 1 rfl Q8E ?_|refine N.store _ (qcl rfl Q8E (by rw[w32,hc];omega)) ?_|refine Bb (jh1 (a+b) (nl b+1) (nl b+1) _ _ _ Q8F Q9e Q8E Q8E hs) ?_|refine Q6i ?_|refine Q5e ?_|refine Bc xb ?_|exact Be|fail)
theorem qm8:Selfish zX:=λp S w h=>(h.1 _).2 rfl
theorem q6g:je4 zC 0 0:=⟨rfl,nzj⟩
theorem nl0{a:Nat}(h:nl a=0):a=0:=nl_zero_iff.1 h
variable{ix:List (Nat×Nat)}
theorem q6h{h:Hp}{k:Nat}(hh:h[k]?=some (some zC)):PostC ix h k zC:=⟨zC,hh,id,nlr _,nzj⟩
theorem jaa(a b m q i j K:Nat)(o o2:Chunk)(h:Hp)(hi:h[i]?=some (some o))(hin:je4 o m a)(hj:h[j]?=some (some o2))(hjn:je4 o2 q b)(hl:nl a<=m)(hm:m<=31)(hl2:nl b<=q)(hq:q<=31)(hz:nl a+nl b=0)(h0:h[K]?=some none):
  qae prog 135 [.slice (some ⟨i,0,some 0⟩) (nl a) m,.slice (some ⟨j,0,some 0⟩) (nl b) q] h (.slice (some ⟨K,0,some 0⟩) 0 0) [(K,zC)] [i,j]:=by
 have ha0:nl a=0:=by omega
 have hb0:nl b=0:=by have:=nl0 ha0;omega
 refine qaq (G:=tys) (λ_:Unit=>True) (λ_=>partH [⟨i,_,je2 false m a,⟨false,0,[]⟩⟩,⟨j,_,je2 false q b,⟨false,0,[]⟩⟩]) [⟨i,_,je2 false m a,⟨false,0,[]⟩⟩,⟨j,_,je2 false q b,⟨false,0,[]⟩⟩] [⟨K,10,zC⟩] [.slice (some ⟨0,0,some 0⟩) (nl a) m,.slice (some ⟨1,0,some 0⟩) (nl b) q] tysOK mixed func135 Q8F (call135) ⟨hi,hj,xb⟩ Q7b Q8K ⟨.inl rfl,.inl rfl,xb⟩ ⟨⟨h0,rfl,.inr qm8,by simp⟩,xb⟩ Q7L Opens.same (λ_ _=>?_)
 repeat' (refine Ba ?_;first|refine Q55 ?_|refine Q51 ?_|refine N.mk (.inr ⟨by rw[ha0,hb0];rfl,by rw[ha0,hb0];rfl,?_⟩)|refine Q6v ?_|refine Bc ⟨⟨by show 2<=10;decide,q6h Q8F⟩,xb⟩ ?_|refine Q6W ?_|exact Be|fail)
theorem jab(a b m q i j K:Nat)(o o2:Chunk)(h:Hp)(hi:h[i]?=some (some o))(hin:je4 o m a)(hj:h[j]?=some (some o2))(hjn:je4 o2 q b)(hl:nl a<=m)(hm:m<=31)(hl2:nl b<=q)(hq:q<=31)(hz:nl a=0)(hba:b<=a)(h0:h[K]?=some none):
  qae prog 162 [.slice (some ⟨i,0,some 0⟩) (nl a) m,.slice (some ⟨j,0,some 0⟩) (nl b) q] h (.slice (some ⟨K,0,some 0⟩) 0 0) [(K,zC)] [i,j]:=by
 have ha0:nl a=0:=by omega
 have hb0:nl b=0:=by have:=nl0 ha0;have hb:b=0:=Q8E;rw[hb,qea]
 refine qaq (G:=tys) (λ_:Unit=>True) (λ_=>partH [⟨i,_,je2 false m a,⟨false,0,[]⟩⟩,⟨j,_,je2 false q b,⟨false,0,[]⟩⟩]) [⟨i,_,je2 false m a,⟨false,0,[]⟩⟩,⟨j,_,je2 false q b,⟨false,0,[]⟩⟩] [⟨K,6,zC⟩] [.slice (some ⟨0,0,some 0⟩) (nl a) m,.slice (some ⟨1,0,some 0⟩) (nl b) q] tysOK mixed func162 Q8F (call162) ⟨hi,hj,xb⟩ Q7b Q8K ⟨.inl rfl,.inl rfl,xb⟩ ⟨⟨h0,rfl,.inr qm8,by simp⟩,xb⟩ Q7L Opens.same (λ_ _=>?_)
 repeat' (refine Ba ?_;first|refine Q55 ?_|refine Q51 ?_|refine N.mk (.inr ⟨by rw[ha0];rfl,by rw[ha0];rfl,?_⟩)|refine Q6v ?_|refine Bc ⟨⟨by show 2<=6;decide,q6h Q8F⟩,xb⟩ ?_|refine Q6W ?_|exact Be|fail)
structure Nm where
 v:Nat
 b:Nat
 o:Nat
 c:Nat
abbrev Nm.sl(e:Nm):Value:=.slice (some ⟨e.b,e.o,none⟩) (nl e.v) e.c
abbrev Nm.big(s:Bool)(e:Nm):Value:=.agg #[.bool s,.bool false,.slice (some ⟨e.b,e.o,none⟩) (nl e.v) e.c]
structure NumAt(w:World)(e:Nm):Prop where
 lt:e.b<w.heap.size
 len:nl e.v<=e.c
 cap:e.c<=31
 cell:∀j,j<e.c->w.cell? ⟨e.b,e.o+j,none⟩=some (.int .u32 ((lm e.v j:Nat):Int))
variable{w:World}
theorem q1d{w':World}{b o:Nat}(h:w'.heap[b]?=w.heap[b]?):w'.cell? ⟨b,o,none⟩=w.cell? ⟨b,o,none⟩:=by
 simp only[World.cell?,h]
variable{e:Nm}
theorem NumAt.keep{w':World}(h:NumAt w e)(hb:w'.heap[e.b]?=w.heap[e.b]?):NumAt w' e:=by
 refine⟨?_,h.len,h.cap,λj hj=>(q1d hb).trans (h.cell j hj)⟩;have hlt:=h.lt
 grind
theorem NumAt.below{w':World}(h:NumAt w e)(hb:Below w.heap.size w w'):NumAt w' e:=h.keep (hb.block e.b h.lt)
abbrev arX(L:List Nm):Ext where
 inv:=λp S w=>∀e∈L,S e.b/\NumAt w e
 keep:=λh hb e he=>⟨(h e he).1,(h e he).2.keep (hb _ (h e he).1)⟩
abbrev arC(L:List Nm):Chunk:=@Chunk.mk (arX L) true 0 []
section
variable{X:Ctx}{ρ:Rz}{h:Hp}{w w':World}
theorem jd8{K:Nat}{es:List Nm}{e0:Nm}(H:HOK X ρ h w)(hi:h[K]?=some none)(hB:Below w.heap.size w w')(h0:e0∈es)(hes:∀e∈es,NumAt w' e/\w.heap.size<=e.b):∃ρ',AgreeOn (Fil h) ρ ρ'/\HOK X ρ' (h.set K (some (arC es))) w':=by
 obtain⟨ρ',h1,_,h2⟩:=H.newX hi (d:=arC es) (b0:=e0.b) (S':=λb=>∃e∈es,b=e.b) rfl hB ⟨(hes e0 h0).2,(hes e0 h0).1.lt⟩ (λb ⟨e,he,hb⟩=>by subst hb;exact⟨(hes e he).2,(hes e he).1.lt⟩) (λe he=>⟨⟨e,he,rfl⟩,(hes e he).1⟩)
 grind
theorem jac{i:Nat}{L es:List Nm}(H:HOK X ρ h w)(hi:h[i]?=some (some (arC L)))(hB:Below w.heap.size w w')(hes:∀e∈es,NumAt w' e/\w.heap.size<=e.b):HOK X ρ (h.set i (some (arC (es++L)))) w':=by
 obtain⟨S,E⟩:=H.ext;have hin:=E.inv i _ hi;refine H.turnX E hi (d:=arC (es++L)) (S':=λb=>S i b\/∃e∈es,b=e.b) id (nlr _) (nzj) hB.os hB.tape hB.output hB.size (λb hb _=>hB.block b hb) (λb hb=>?_) (λe he=>?_)
 .rcases hb with hb|⟨e,he,rfl⟩
  .exact Q4G
  .exact⟨(hes e he).1.lt,.inl rfl,.inr (hes e he).2⟩
 .rcases yJ.1 he with he|he
  .grind
  .exact⟨.inl (hin e he).1,(hin e he).2.below hB⟩
end
inductive SrcS(h:Hp)(L:List Nm):Value->Nat->Prop
 | ar {e:Nm} (he:e∈L):SrcS h L (.slice (some ⟨e.b,e.o,none⟩) (nl e.v) e.c) e.v
 | ch {j v c:Nat} {o:Chunk} (hj:h[j]?=some (some o)) (hn:je4 o c v) (hl:nl v<=c) (hm:c<=31):SrcS h L (.slice (some ⟨j,0,some 0⟩) (nl v) c) v
inductive AV where
 | at_ (e:Nm)
 | bigat (s:Bool) (e:Nm)
 | pl (v:Value)
 | sl (v:Nat)
 | big (s:Bool) (v:Nat)
inductive ArgS(h:Hp)(L:List Nm):Value->AV->Prop
 | at_ {e:Nm} (he:e∈L):ArgS h L (.slice (some ⟨e.b,e.o,none⟩) (nl e.v) e.c) (.at_ e)
 | bigat {s:Bool} {e:Nm} (he:e∈L):ArgS h L (.agg #[.bool s,.bool false,.slice (some ⟨e.b,e.o,none⟩) (nl e.v) e.c]) (.bigat s e)
 | pl {v:Value} (hp:qap v=true):ArgS h L v (.pl v)
 | sl {sv:Value} {v:Nat} (s:SrcS h L sv v):ArgS h L sv (.sl v)
 | big {b:Bool} {sv:Value} {v:Nat} (s:SrcS h L sv v):ArgS h L (.agg #[.bool b,.bool false,sv]) (.big b v)
inductive AR(w:World):AV->Value->Prop
 | at_ {e:Nm} (ha:NumAt w e):AR w (.at_ e) e.sl
 | bigat {s:Bool} {e:Nm} (ha:NumAt w e):AR w (.bigat s e) (e.big s)
 | pl {v:Value} (hp:qap v=true):AR w (.pl v) v
 | sl {e:Nm} {v:Nat} (ha:NumAt w e) (hv:e.v=v):AR w (.sl v) e.sl
 | big {s:Bool} {e:Nm} {v:Nat} (ha:NumAt w e) (hv:e.v=v):AR w (.big s v) (e.big s)
theorem SrcS.at{X:Ctx}{ρ:Rz}{h:Hp}{w:World}{L:List Nm}{sv:Value}{v:Nat}(H:HOK X ρ h w)(ha:∀e∈L,NumAt w e)(s:SrcS h L sv v):
  ∃e:Nm,NumAt w e/\e.v=v/\den ρ sv=e.sl/\den0 ρ sv=e.sl/\den1 ρ sv=e.sl:=by
 cases s with
 | ar he=>rename_i e;exact⟨e,ha e he,rfl,rfl,rfl,rfl⟩
 | ch hj hn hl hm=>
  rename_i j c o;refine⟨⟨v,(ρ j).1,(ρ j).2,c⟩,⟨H.lt j o hj,hl,hm,λk hk=>?_⟩,rfl,rfl,rfl,rfl⟩;obtain⟨x,hx,hd⟩:=H.cell j o hj k (by rw[hn.1];exact hk);rw[hn.2 k hk] at hd;show w.cell? ⟨(ρ j).1,(ρ j).2+k,none⟩=_;rw[hx,<-hd.self];rfl
theorem qo1{X:Ctx}{ρ:Rz}{h:Hp}{w:World}{L:List Nm}(H:HOK X ρ h w)(ha:∀e∈L,NumAt w e):∀{vs:List Value}{qs:List AV}{xs:List Value},All2 (ArgS h L) vs qs->All2 (Den (Fil h) ρ) vs xs->All2 (AR w) qs xs
 | [],[],[],_,_=>trivial
 | [],[],_::_,_,h=>h.elim
 | [],_::_,_,h,_=>h.elim
 | _::_,[],_,h,_=>h.elim
 | _::_,_::_,[],_,h=>h.elim
 | v::vs,a::qs,x::xs,h1,h2=>by
  refine⟨?_,qo1 H ha h1.2 h2.2⟩;have hd:=h2.1.self;cases h1.1 with
  | at_ he=>rename_i e;rw[<-hd];exact .at_ (ha e he)
  | bigat he=>
   rename_i s e;rw[qbb (v:=Nm.big s e) rfl] at hd;rw[<-hd];exact .bigat (ha e he)
  | pl hp=>rw[qbb hp] at hd;rw[<-hd];exact .pl hp
  | sl s=>
   obtain⟨e,h1,h2,h3,_⟩:=s.at H ha;rw[h3] at hd;rw[<-hd];exact .sl h1 h2
  | big s=>
   rename_i b sv u;obtain⟨e,h1,h2,_,_,h3⟩:=s.at H ha;have e1:den ρ (.agg #[.bool b,.bool false,sv])=.agg #[den1 ρ (.bool b),den1 ρ (.bool false),den1 ρ sv]:=by
    simp only[den,den2,yv,xq,yg]
   rw[e1,h3] at hd;rw[<-hd];exact .big h1 h2
section
variable{P:Program}{G:Tys}
variable{vs:List Value}{qs:List AV}{L:List Nm}
theorem q4v{g:FuncId}{h:Hp}{α:Type}(i:Nat)(hi:h[i]?=some (some (arC L)))(ok:α->Prop)(V:α->Value)(es:α->List Nm)(hr:∀xs w,(callFunc g xs).run P w=.ok (.enter g xs) w)(ha:All2 (ArgS h L) vs qs)(hV:∀κ,ok κ->qan (V κ)=true)
  (hc:∀w xs,All2 (AR w) qs xs->Calls P g ⟨xs⟩ w λe w'=>∃κ,ok κ/\e=.returned (V κ)/\Below w.heap.size w w'/\∀n∈es κ,NumAt w' n/\w.heap.size<=n.b) :
  CallAll P g vs h λv ms=>∃κ,ok κ/\v=V κ/\ms=[(i,arC (es κ++L))]:=λX ρ w xs H hx=>by
 obtain⟨S,E⟩:=H.ext
 have hL:∀e∈L,NumAt w e:=λe he=>((E.inv i _ hi) e he).2
 refine .inr ⟨hr _ w,(hc w xs (qo1 H hL ha hx)).mono ?_⟩
 rintro e w' ⟨κ,hok,rfl,hB,hes⟩
 exact⟨V κ,rfl,V κ,_,ρ,⟨κ,hok,rfl,rfl⟩,AgreeOn.refl _ _,jac H hi hB hes,λr _=>qa0 (hV κ hok) r⟩
theorem q4w{g:FuncId}{h:Hp}{α:Type}(K:Nat)(hi:h[K]?=some none)(ok:α->Prop)(V:α->Value)(es:α->List Nm)(hr:∀xs w,(callFunc g xs).run P w=.ok (.enter g xs) w)(ha:All2 (ArgS h []) vs qs)(hV:∀κ,ok κ->qan (V κ)=true)(h0:∀κ,ok κ->es κ≠[])
  (hc:∀w xs,All2 (AR w) qs xs->Calls P g ⟨xs⟩ w λe w'=>∃κ,ok κ/\e=.returned (V κ)/\Below w.heap.size w w'/\∀n∈es κ,NumAt w' n/\w.heap.size<=n.b) :
  CallAll P g vs h λv ms=>∃κ,ok κ/\v=V κ/\ms=[(K,arC (es κ))]:=λX ρ w xs H hx=>by
 refine .inr ⟨hr _ w,(hc w xs (qo1 H (λe he=>by cases he) ha hx)).mono ?_⟩
 rintro e w' ⟨κ,hok,rfl,hB,hes⟩
 obtain⟨e0,he0⟩:=List.exists_mem_of_ne_nil _ (h0 κ hok)
 obtain⟨ρ',h1,h2⟩:=jd8 H hi hB he0 hes
 exact⟨V κ,rfl,V κ,_,ρ',⟨κ,hok,rfl,rfl⟩,h1,h2,λr _=>qa0 (hV κ hok) r⟩
theorem q4x{g:FuncId}{h:Hp}{V:Value}(rh:List Nat)(i:Nat)(hi:h[i]?=some (some (arC L))\/L=[])(hrh:i∈rh\/L=[])(hr:∀xs w,(callFunc g xs).run P w=.ok (.enter g xs) w)(ha:∀h₂:Hp,(∀i∈rh,h₂[i]?=h[i]?)->All2 (ArgS h₂ L) vs qs)(hV:qan V=true)
  (hc:∀w xs,All2 (AR w) qs xs->Calls P g ⟨xs⟩ w λe w'=>e=.returned V/\Below w.heap.size w w') :
  qae P g vs h V [] rh:=λh₂ hrr _ X ρ w xs H hx=>by
 obtain⟨S,E⟩:=H.ext
 have hL:∀e∈L,NumAt w e:=λe he=>by
  rcases hi with hi|hi
  .rcases hrh with h1|h1
   .exact((E.inv i _ ((hrr i h1).trans hi)) e he).2
   .rw[h1] at he;cases he
  .rw[hi] at he;cases he
 refine .inr ⟨hr _ w,(hc w xs (qo1 H hL (ha h₂ hrr) hx)).mono ?_⟩
 rintro e w' ⟨rfl,hB⟩
 exact⟨V,rfl,ρ,AgreeOn.refl _ _,H.frame hB,λr _=>qa0 hV r⟩
def jhg(es:List Nm):Hp:=es.map λe=>some (je2 false e.c e.v)
def jkr(es:List Nm)(k:Nat):Nat×Nat:=match es[k]? with
 | some e=>(e.b,e.o)
 | none=>(0,0)
variable{es:List Nm}{w:World}
theorem qo2(m:Nat)(he:∀e∈es,NumAt w e):HOK ⟨w,λ_=>False,0,jkr es⟩ (jkr es) (jhg es++List.replicate m none) w:=by
 have getP:∀(k:Nat)(c:Chunk),(jhg es++List.replicate m none)[k]?=some (some c)->∃e:Nm,es[k]?=some e/\je2 false e.c e.v=c:=λk c hk=>by
  grind[jhg]
 have hρ:∀(k:Nat)(e:Nm),es[k]?=some e->jkr es k=(e.b,e.o):=λk e hk=>by unfold jkr;rw[hk]
 refine⟨Evo.refl _ _,λi hi=>absurd hi Q8P,λk c hk=>?_,λk c hk j hj=>?_,λk c hk ho=>?_,λk c l d hk ho=>?_,ExtOK.nil λk c hk=>?_⟩
 .obtain⟨e,hs,rfl⟩:=getP k c hk;rw[hρ k e hs];exact(he e (xL hs)).lt
 .obtain⟨e,hs,rfl⟩:=getP k c hk;have hj:j<e.c:=hj;rw[hρ k e hs,qbk hj];exact⟨_,(he e (xL hs)).cell j hj,Den1.plain rfl⟩
 .grind
 .grind
 grind
inductive NArg(es:List Nm):Value->Value->Prop
 | pl {v:Value} (hp:qap v=true):NArg es v v
 | sl {k:Nat} {e:Nm} (h:es[k]?=some e):NArg es (.slice (some ⟨k,0,some 0⟩) (nl e.v) e.c) e.sl
 | big {k:Nat} {e:Nm} {s:Bool} (h:es[k]?=some e):NArg es (.agg #[.bool s,.bool false,.slice (some ⟨k,0,some 0⟩) (nl e.v) e.c]) (e.big s)
theorem qhn{es:List Nm}{m:Nat}:∀{vs xs:List Value},All2 (NArg es) vs xs->All2 (Den (Fil (jhg es++List.replicate m none)) (jkr es)) vs xs
 | [],[],_=>trivial
 | [],_::_,h=>h.elim
 | _::_,[],h=>h.elim
 | v::vs,x::xs,h=>by
  refine⟨?_,qhn h.2⟩;have fil:∀(k:Nat)(e:Nm),es[k]?=some e->Fil (jhg es++List.replicate m none) k:=λk e hk=>⟨je2 false e.c e.v,by
   grind[jhg]⟩
  have hρ:∀(k:Nat)(e:Nm),es[k]?=some e->jkr es k=(e.b,e.o):=λk e hk=>by unfold jkr;rw[hk]
  cases h.1 with
  | pl hp=>exact Den.plain hp
  | sl hk=>
   intro r hr;have e1:=hr _ (fil _ _ hk)
   grind[den,den2,den1,den0,jfd]
  | big hk=>
   intro r hr;have e1:=hr _ (fil _ _ hk);rw[hρ _ _ hk] at e1;simp only[den,den2,yv,xq,yg,den1,den0,jfd,e1];rfl
variable{V:Nat->Value}{rh:List Nat}
theorem qjw{g:FuncId}{xs:List Value}{m v:Nat}(hr:∀xs w,(callFunc g xs).run P w=.ok (.enter g xs) w)(he:∀e∈es,NumAt w e)(hx:All2 (NArg es) vs xs)(hm:0<m/\m<=31)(hl:nl v<=m)(W:Nm->Value)
  (hW:∀(r:Rz),den r (V es.length)=W ⟨v,(r es.length).1,(r es.length).2,m⟩)
  (hc:qae P g vs (jhg es++[none]) (V es.length) [(es.length,je2 true m v)] rh):Calls P g ⟨xs⟩ w λe w'=>∃κ:Nm,κ.v=v/\e=.returned (W κ)/\Below w.heap.size w w'/\NumAt w' κ/\w.heap.size<=κ.b:=by
 rcases hc _ (λ_ _=>rfl) (λ_ _=>rfl) _ _ w xs (qo2 1 he) (qhn (m:=1) hx) with ⟨x,w',hrun,_⟩|⟨_,hcl⟩
 .rw[hr] at hrun;cases hrun
 refine hcl.mono ?_
 rintro e w' ⟨x,rfl,ρ',_,H,hd⟩
 have hk:(modH (jhg es++[none]) [(es.length,je2 true m v)])[es.length]?=some (some (je2 true m v)):=Q4f
 refine⟨⟨v,(ρ' es.length).1,(ρ' es.length).2,m⟩,rfl,?_,H.evo.below,⟨H.lt _ _ hk,hl,hm.2,λj hj=>?_⟩,?_⟩
 .rw[<-hW ρ',hd.self]
 .obtain⟨y,hy,hyd⟩:=H.cell _ _ hk j hj;rw[qbk hj] at hyd;rw[hy,<-hyd.self];rfl
 .rcases(H.own _ _ hk rfl 0 hm.1).2 with h1|h1
  .exact h1
  .exact h1.elim
theorem q4y{g:FuncId}{xs:List Value}{V:Value}(hr:∀xs w,(callFunc g xs).run P w=.ok (.enter g xs) w)(he:∀e∈es,NumAt w e)(hx:All2 (NArg es) vs xs)(W:Value)
  (hW:All2 (NArg es) [V] [W]) (hc:qae P g vs (jhg es++[]) V [] rh):Calls P g ⟨xs⟩ w λe w'=>e=.returned W/\Below w.heap.size w w':=by
 rcases hc _ (λ_ _=>rfl) (λ_ _=>rfl) _ _ w xs (qo2 0 he) (qhn (m:=0) hx) with ⟨x,w',hrun,_⟩|⟨_,hcl⟩
 .rw[hr] at hrun;cases hrun
 refine hcl.mono ?_
 rintro e w' ⟨x,rfl,ρ',ha,H,hd⟩
 refine⟨?_,H.evo.below⟩
 have h1:=(qhn (m:=0) hW).1 ρ' ha
 rw[<-h1,hd.self]
theorem qvh{g:FuncId}{xs:List Value}(hr:∀xs w,(callFunc g xs).run P w=.ok (.enter g xs) w)(he:∀e∈es,NumAt w e)(hx:All2 (NArg es) vs xs)(W:Nm->Value)
  (hW:∀(r:Rz),den r (V es.length)=W ⟨0,(r es.length).1,(r es.length).2,0⟩)
  (hc:qae P g vs (jhg es++[none]) (V es.length) [(es.length,zC)] rh):Calls P g ⟨xs⟩ w λe w'=>∃κ:Nm,κ.v=0/\e=.returned (W κ)/\Below w.heap.size w w'/\NumAt w' κ/\w.heap.size<=κ.b:=by
 rcases hc _ (λ_ _=>rfl) (λ_ _=>rfl) _ _ w xs (qo2 1 he) (qhn (m:=1) hx) with ⟨x,w',hrun,_⟩|⟨_,hcl⟩
 .rw[hr] at hrun;cases hrun
 refine hcl.mono ?_
 rintro e w' ⟨x,rfl,ρ',_,H,hd⟩
 have hk:(modH (jhg es++[none]) [(es.length,zC)])[es.length]?=some (some zC):=Q4f
 obtain⟨S,E⟩:=H.ext
 obtain⟨hS,_⟩:=E.inv _ _ hk
 refine⟨⟨0,(ρ' es.length).1,(ρ' es.length).2,0⟩,rfl,?_,H.evo.below,⟨H.lt _ _ hk,by rw[qea];exact nlr _,by show(0:Nat)<=31;omega,nzj⟩,?_⟩
 .rw[<-hW ρ',hd.self]
 .rcases(E.mine _ _ _ hk ((hS _).2 rfl)).2.2 with h1|h1
  .exact h1
  .exact h1.1.elim
theorem qeb{g:FuncId}{h:Hp}{slot:Nat}{C:List Nat->Prop}{K:List Nat->Value->Mz->Prop}(hs:List Nat)(R:Value->Mz->Prop)(hC:C hs)(hc:∀h₂:Hp,(∀q∈hs,h₂[q]?=h[q]?)->CallAll P g vs h₂ R)(k:∀v ms,R v ms->(∀q∈ms.map (·.1),q∈hs)/\K hs v ms):N (jia P g vs h slot C K):=N.mk ⟨hs,R,hC,hc,k⟩
def Mk(P:Program)(g:FuncId)(xs:List Value)(w:World)(v:Nat)(W:Nm->Value):Prop:=Calls P g ⟨xs⟩ w λe w'=>∃κ:Nm,κ.v=v/\e=.returned (W κ)/\Below w.heap.size w w'/\NumAt w' κ/\w.heap.size<=κ.b
theorem qrm{g:FuncId}{h:Hp}(i:Nat)(hi:h[i]?=some (some (arC L)))(v:Nat)(W:Nm->Value)(hr:∀xs w,(callFunc g xs).run P w=.ok (.enter g xs) w)(ha:All2 (ArgS h L) vs qs)(hW:∀κ:Nm,qan (W κ)=true)(hc:∀w xs,All2 (AR w) qs xs->Mk P g xs w v W):
  CallAll P g vs h λx ms=>∃κ:Nm,κ.v=v/\x=W κ/\ms=[(i,arC (κ::L))]:=
 q4v i hi (λκ:Nm=>κ.v=v) W (λκ=>[κ]) hr ha (λκ _=>hW κ) λw xs hx=>(hc w xs hx).mono λe w' ⟨κ,h1,h2,h3,h4,h5⟩=>⟨κ,h1,h2,h3,λn hn=>by rw[yt.1 hn];exact⟨h4,h5⟩⟩
theorem qkc{g:FuncId}{h:Hp}(K:Nat)(hi:h[K]?=some none)(v:Nat)(W:Nm->Value)(hr:∀xs w,(callFunc g xs).run P w=.ok (.enter g xs) w)(ha:All2 (ArgS h []) vs qs)(hW:∀κ:Nm,qan (W κ)=true)(hc:∀w xs,All2 (AR w) qs xs->Mk P g xs w v W):
  CallAll P g vs h λx ms=>∃κ:Nm,κ.v=v/\x=W κ/\ms=[(K,arC [κ])]:=
 q4w K hi (λκ:Nm=>κ.v=v) W (λκ=>[κ]) hr ha (λκ _=>hW κ) (λ_ _=>by simp) λw xs hx=>(hc w xs hx).mono λe w' ⟨κ,h1,h2,h3,h4,h5⟩=>⟨κ,h1,h2,h3,λn hn=>by rw[yt.1 hn];exact⟨h4,h5⟩⟩
def jp9(h:Hp)(x:Value)(v:Nat)(W:Nm->Value):Prop:=∃(κ:Nm)(i:Nat)(L:List Nm),κ.v=v/\x=W κ/\h[i]?=some (some (arC L))/\κ∈L
variable{W:Nm->Value}
theorem N.endM{h:Hp}{x:Value}{v:Nat}(κ:Nm)(i:Nat)(h1:κ.v=v)(h2:x=W κ)(h3:h[i]?=some (some (arC L)))(h4:κ∈L):N (jp9 h x v W):=N.mk ⟨κ,i,L,h1,h2,h3,h4⟩
theorem qft{f:FuncId}{fn:Func}{c:Code}{xs:List Value}{v:Nat}(w:World)(hG:jey P G)(hm:P.follows .mixedOrders=true)(hf:P.funcs[f]?=some fn)(hb:fn.body=some c)(he:∀e∈es,NumAt w e)(hx:All2 (NArg es) vs xs)(hW:∀κ:Nm,qan (W κ)=true)
  (hwp:initK vs fn.ntmps λt=>wpC P G 0 c (bodyQ P G fn λx st=>N (jp9 st.h x v W)) ⟨t,jhg es⟩):Mk P f xs w v W:=by
 have H:=qo2 (w:=w) 0 he
 have hd:=qhn (m:=0) hx
 simp only[List.replicate_zero,zh] at H hd
 refine(qfv (args:=⟨xs⟩) hG hm hf hb H hd hwp).mono ?_
 rintro e w' ⟨ρ',x,st,y,rfl,H',hdx,hq⟩
 obtain⟨κ,i,L,h1,h2,h3,h4⟩:=hq.out
 obtain⟨S,E⟩:=H'.ext
 obtain⟨g1,g2⟩:=E.inv i _ h3 κ h4
 refine⟨κ,h1,?_,H'.evo.below,g2,?_⟩
 .rw[<-hdx.self,h2,qa0 (hW κ)]
 .rcases(E.mine _ _ _ h3 g1).2.2 with h5|h5
  .exact h5
  simp_all
end
open Go Go.RowKit Sx
abbrev bz(z:Int):AV:=.big (decide (z<0)) z.natAbs
abbrev bzW(z:Int)(κ:Nm):Value:=.agg #[.bool (decide (z<0)),.bool false,.slice (some ⟨κ.b,κ.o,none⟩) (nl κ.v) κ.c]
variable{xs:List Value}
theorem q1e{a b:Nat}(hx:All2 (AR w) [.sl a,.sl b] xs):∃e e':Nm,xs=[e.sl,e'.sl]/\NumAt w e/\e.v=a/\NumAt w e'/\e'.v=b:=by
 rcases xs with _|⟨x,_|⟨y,_|⟨z,xs⟩⟩⟩<;>first|exact hx.elim|exact hx.2.elim|exact hx.2.2.elim|skip
 obtain⟨h1,h2,_⟩:=hx;cases h1 with
 | sl a1 v1=>cases h2 with
  | sl a2 v2=>exact⟨_,_,rfl,a1,v1,a2,v2⟩
theorem qs2{s u:Bool}{a b:Nat}(hx:All2 (AR w) [.big s a,.big u b] xs):∃e e':Nm,xs=[e.big s,e'.big u]/\NumAt w e/\e.v=a/\NumAt w e'/\e'.v=b:=by
 rcases xs with _|⟨x,_|⟨y,_|⟨z,xs⟩⟩⟩<;>first|exact hx.elim|exact hx.2.elim|exact hx.2.2.elim|skip
 obtain⟨h1,h2,_⟩:=hx;cases h1 with
 | big a1 v1=>cases h2 with
  | big a2 v2=>exact⟨_,_,rfl,a1,v1,a2,v2⟩
theorem jad{s u r:Bool}{a b c:Nat}(hx:All2 (AR w) [.big s a,.big u b,.big r c] xs):∃e e' e'':Nm,xs=[e.big s,e'.big u,e''.big r]/\NumAt w e/\e.v=a/\NumAt w e'/\e'.v=b/\NumAt w e''/\e''.v=c:=by
 rcases xs with _|⟨x,_|⟨y,_|⟨z,_|⟨z',xs⟩⟩⟩⟩<;>first|exact hx.elim|exact hx.2.elim|exact hx.2.2.elim|exact hx.2.2.2.elim|skip
 obtain⟨h1,h2,h3,_⟩:=hx;cases h1 with
 | big a1 v1=>cases h2 with
  | big a2 v2=>cases h3 with
   | big a3 v3=>exact⟨_,_,_,rfl,a1,v1,a2,v2,a3,v3⟩
theorem q6i{v:Value}(hx:All2 (AR w) [.pl v] xs):xs=[v]:=by
 rcases xs with _|⟨x,_|⟨y,xs⟩⟩<;>first|exact hx.elim|exact hx.2.elim|skip
 obtain⟨h1,_⟩:=hx;cases h1;rfl
theorem qhw{e':Nm}(h:NumAt w e)(h':NumAt w e'):∀x∈[e,e'],NumAt w x:=λx hx=>by
 rcases xi.1 hx with rfl|hx
 .exact h
 .rw[yt.1 hx];exact h'
theorem jd9(h:NumAt w e):∀x∈[e],NumAt w x:=λx hx=>by rw[yt.1 hx];exact h
theorem q4z{e' e'':Nm}(h:NumAt w e)(h':NumAt w e')(h'':NumAt w e''):∀x∈[e,e',e''],NumAt w x:=λx hx=>by
 rcases xi.1 hx with rfl|hx
 .exact h
 .exact qhw h' h'' x hx
theorem jea(a b:Nat)(hb:nl a+nl b<=31)(w:World)(xs:List Value)(hx:All2 (AR w) [.sl a,.sl b] xs):Mk prog 135 xs w (a*b) Nm.sl:=by
 obtain⟨e,e',rfl,h1,v1,h2,v2⟩:=q1e hx;subst v1 v2;by_cases hz:nl e.v+nl e'.v=0
 .have e0:e.v*e'.v=0:=by rw[nl0 (show nl e.v=0 by omega)];simp
  rw[e0];exact qvh (V:=λK=>.slice (some ⟨K,0,some 0⟩) 0 0) (es:=[e,e']) (call135) (qhw h1 h2) (vs:=[.slice (some ⟨0,0,some 0⟩) (nl e.v) e.c,.slice (some ⟨1,0,some 0⟩) (nl e'.v) e'.c]) (xs:=[e.sl,e'.sl]) Q81 Nm.sl (λr=>by show _=Value.slice _ (nl 0) 0;rw[qea];rfl) (jaa e.v e'.v e.c e'.c 0 1 2 _ _ _ rfl (je7 _ _ _) rfl (je7 _ _ _) h1.len h1.cap h2.len h2.cap hz rfl)
 .exact qjw (V:=λK=>.slice (some ⟨K,0,some 0⟩) (nl (e.v*e'.v)) (nl e.v+nl e'.v)) (es:=[e,e']) (call135) (qhw h1 h2) (vs:=[.slice (some ⟨0,0,some 0⟩) (nl e.v) e.c,.slice (some ⟨1,0,some 0⟩) (nl e'.v) e'.c]) (xs:=[e.sl,e'.sl]) Q81 ⟨by omega,by omega⟩ (nl_le.2 (qo0 _ _)) Nm.sl (λr=>rfl) (q99 e.v e'.v e.c e'.c 0 1 2 _ _ _ rfl (je7 _ _ _) rfl (je7 _ _ _) h1.len h1.cap h2.len h2.cap Q8E rfl)
theorem q6j(a b:Nat)(hba:b<=a)(w:World)(xs:List Value)(hx:All2 (AR w) [.sl a,.sl b] xs):Mk prog 162 xs w (a-b) Nm.sl:=by
 obtain⟨e,e',rfl,h1,v1,h2,v2⟩:=q1e hx;subst v1 v2;by_cases hz:nl e.v=0
 .have e0:e.v-e'.v=0:=by rw[nl0 (show nl e.v=0 by omega)];simp
  rw[e0];exact qvh (V:=λK=>.slice (some ⟨K,0,some 0⟩) 0 0) (es:=[e,e']) (call162) (qhw h1 h2) (vs:=[.slice (some ⟨0,0,some 0⟩) (nl e.v) e.c,.slice (some ⟨1,0,some 0⟩) (nl e'.v) e'.c]) (xs:=[e.sl,e'.sl]) Q81 Nm.sl (λr=>by show _=Value.slice _ (nl 0) 0;rw[qea];rfl) (jab e.v e'.v e.c e'.c 0 1 2 _ _ _ rfl (je7 _ _ _) rfl (je7 _ _ _) h1.len h1.cap h2.len h2.cap hz hba rfl)
 .have hl:=h1.len;have hc:=h1.cap;exact qjw (V:=λK=>.slice (some ⟨K,0,some 0⟩) (nl (e.v-e'.v)) (nl e.v)) (es:=[e,e']) (call162) (qhw h1 h2) (vs:=[.slice (some ⟨0,0,some 0⟩) (nl e.v) e.c,.slice (some ⟨1,0,some 0⟩) (nl e'.v) e'.c]) (xs:=[e.sl,e'.sl]) Q81 ⟨by omega,by omega⟩ (nl_le.2 (xM (Nat.sub_le _ _) (qb1 _))) Nm.sl (λr=>rfl) (jd5 e.v e'.v e.c e'.c 0 1 2 _ _ _ rfl (je7 _ _ _) rfl (je7 _ _ _) h1.len h1.cap h2.len h2.cap hba Q8E rfl)
theorem jpe(a b:Nat)(ha:nl a<=30)(hb:nl b<=30)(w:World)(xs:List Value)(hx:All2 (AR w) [.sl a,.sl b] xs):Mk prog 160 xs w (a+b) Nm.sl:=by
 obtain⟨e,e',rfl,h1,v1,h2,v2⟩:=q1e hx;subst v1 v2;by_cases hz:nl e.v<nl e'.v
 .exact qjw (V:=λK=>.slice (some ⟨K,0,some 0⟩) (nl (e.v+e'.v)) (nl e'.v+1)) (es:=[e,e']) (call160) (qhw h1 h2) (vs:=[.slice (some ⟨0,0,some 0⟩) (nl e.v) e.c,.slice (some ⟨1,0,some 0⟩) (nl e'.v) e'.c]) (xs:=[e.sl,e'.sl]) Q81 ⟨by omega,by omega⟩ (nl_le.2 (by rw[qdr];have q1:=qb1 e.v;have q2:=qb1 e'.v;have q3:=qjv (show nl e.v<=nl e'.v by omega);omega)) Nm.sl (λr=>rfl) (jd7 e.v e'.v e.c e'.c 0 1 2 _ _ _ rfl (je7 _ _ _) rfl (je7 _ _ _) h1.len h1.cap h2.len h2.cap hz rfl)
 .exact qjw (V:=λK=>.slice (some ⟨K,0,some 0⟩) (nl (e.v+e'.v)) (nl e.v+1)) (es:=[e,e']) (call160) (qhw h1 h2) (vs:=[.slice (some ⟨0,0,some 0⟩) (nl e.v) e.c,.slice (some ⟨1,0,some 0⟩) (nl e'.v) e'.c]) (xs:=[e.sl,e'.sl]) Q81 ⟨by omega,by omega⟩ (nl_le.2 (by rw[qdr];have q1:=qb1 e.v;have q2:=qb1 e'.v;have q3:=qjv (show nl e'.v<=nl e.v by omega);omega)) Nm.sl (λr=>rfl) (jd6 e.v e'.v e.c e'.c 0 1 2 _ _ _ rfl (je7 _ _ _) rfl (je7 _ _ _) h1.len h1.cap h2.len h2.cap Q8E rfl)
theorem jpf(s:Bool)(e:Nm)(w:World)(h1:NumAt w e):Calls prog 104 ⟨[.bool s,e.sl]⟩ w λe' w'=>e'=.returned (e.big (s&&decide (0<e.v)))/\Below w.heap.size w w':=
 q4y (es:=[e]) (call104) (jd9 h1) (vs:=[.bool s,.slice (some ⟨0,0,some 0⟩) (nl e.v) e.c]) (xs:=[.bool s,e.sl]) ⟨.pl rfl,.sl rfl,xb⟩ (e.big (s&&decide (0<e.v))) (V:=.agg #[.bool (s&&decide (0<e.v)),.bool false,.slice (some ⟨0,0,some 0⟩) (nl e.v) e.c]) ⟨.big rfl,xb⟩ (qoz e.v e.c (nl e.v) 0 s _ rfl _ _ rfl (je7 _ _ _) h1.len h1.cap (qb1 _))
theorem qvi(s:Bool)(κ:Nm)(i:Nat){L:List Nm}{h:Hp}(hi:h[i]?=some (some (arC L)))(hκ:κ∈L):
  qae prog 104 [.bool s,.slice (some ⟨κ.b,κ.o,none⟩) (nl κ.v) κ.c] h (.agg #[.bool (s&&decide (0<κ.v)),.bool false,.slice (some ⟨κ.b,κ.o,none⟩) (nl κ.v) κ.c]) [] [i]:=
 q4x (qs:=[.pl (.bool s),.at_ κ]) [i] i (.inl hi) (.inl (yt.2 rfl)) (call104) (λ_ _=>⟨.pl rfl,.at_ hκ,xb⟩) rfl λw xs hx=>by
  rcases xs with _|⟨x,_|⟨y,_|⟨z,xs⟩⟩⟩<;>first|exact hx.elim|exact hx.2.elim|exact hx.2.2.elim|skip
  obtain⟨h1,h2,_⟩:=hx;cases h1 with
  | pl hp=>cases h2 with
   | at_ ha=>exact jpf s κ w ha
theorem jae(n K:Nat)(h:Hp)(h0:h[K]?=some none)(hn:n<=9223372036854775808)(hp:0<n):
  qae prog 68 [xc (-(n:Int))] h (.agg #[.bool true,.bool false,.slice (some ⟨K,0,some 0⟩) (nl n) 2]) [(K,je2 true 2 n)] []:=by
 have h2:=qfs (n:=n) Q8E
 have hu:IntKind.u64.wrap (0-IntKind.u64.wrap (-(n:Int)))=(n:Int):=by rw[xk,xk];omega
 refine qak (G:=tys) [] [⟨K,1,je2 true 2 n⟩] [xc (-(n:Int))] tysOK mixed func68 Q8F (call68) xb xb xb ⟨⟨h0,rfl,by show 0<2;decide,by simp⟩,xb⟩ ⟨.plain rfl,xb⟩ ?_
 repeat' (refine Ba ?_;first|refine Q55 ?_|refine Q51 ?_|refine Bb (qoz n 2 2 _ (decide (-(n:Int)<0)) true (by rw[xf (show -(n:Int)<0 by omega),xf hp];rfl) _ _ Q8F (qvg (by rw[hu,w32]) (by rw[hu,jkq,w32])) Q8E Q8E h2.1) ?_|refine Q5i ?_|refine Q6m ?_|refine Bc ⟨⟨xn _,qhm Q8F rfl (qvg (by rw[hu,w32]) (by rw[hu,jkq,w32]))⟩,xb⟩ ?_|refine Bc xb ?_|exact Be|fail)
theorem wOf(z:Int)(hz : -9223372036854775808<=z/\z<9223372036854775808)(w:World)(xs:List Value)(hx:All2 (AR w) [.pl (xc z)] xs):Mk prog 68 xs w z.natAbs (bzW z):=by
 obtain rfl:=q6i hx;have hn2:nl z.natAbs<=2:=(qfs (n:=z.natAbs) Q8E).2;by_cases hs:z<0
 .obtain⟨n,rfl⟩:∃n:Nat,z = -(n:Int):=⟨z.natAbs,by omega⟩;have e1:(-(n:Int)).natAbs=n:=by omega
  rw[e1] at hn2 ⊢;refine qjw (V:=λK=>.agg #[.bool true,.bool false,.slice (some ⟨K,0,some 0⟩) (nl n) 2]) (es:=[]) (call68) (λe he=>by cases he) (vs:=[xc (-(n:Int))]) (xs:=[xc (-(n:Int))]) ⟨.pl rfl,xb⟩ ⟨by decide,by decide⟩ hn2 (bzW (-(n:Int))) (λr=>?_) (jae n 0 _ rfl Q8E Q8E);rw[bzW,xf hs];simp only[den,den2,yv,xq,yg,den1,den0,jfd,xZ]
 .obtain⟨n,rfl⟩:∃n:Nat,z=(n:Int):=⟨z.natAbs,by omega⟩;have e1:((n:Int)).natAbs=n:=by omega
  rw[e1] at hn2 ⊢;refine qjw (V:=λK=>.agg #[.bool false,.bool false,.slice (some ⟨K,0,some 0⟩) (nl n) 2]) (es:=[]) (call68) (λe he=>by cases he) (vs:=[xc (n:Int)]) (xs:=[xc (n:Int)]) ⟨.pl rfl,xb⟩ ⟨by decide,by decide⟩ hn2 (bzW (n:Int)) (λr=>?_) (jrf n 0 _ rfl Q8E);rw[bzW,xe hs];simp only[den,den2,yv,xq,yg,den1,den0,jfd,xZ]
theorem jeb(v m i:Nat)(s r:Bool)(hr:r=(!s&&decide (0<v)))(o:Chunk)(h:Hp)(hi:h[i]?=some (some o))(hin:je4 o m v)(hl:nl v<=m)(hm:m<=31):
  qae prog 134 [.agg #[.bool s,.bool false,.slice (some ⟨i,0,some 0⟩) (nl v) m]] h (.agg #[.bool r,.bool false,.slice (some ⟨i,0,some 0⟩) (nl v) m]) [] [i]:=by
 refine qak (G:=tys) [⟨i,_,je2 false m v,⟨false,0,[]⟩⟩] [] [.agg #[.bool s,.bool false,.slice (some ⟨0,0,some 0⟩) (nl v) m]] tysOK mixed func134 Q8F (call134) ⟨hi,xb⟩ Q7O Q8K xb ⟨.agg ⟨.plain rfl,.plain rfl,.slice rfl,xb⟩,xb⟩ ?_
 repeat' (refine Ba ?_;first|refine Q55 ?_|refine Q51 ?_|refine Bb (qoz v m (nl v) _ (!s) r hr _ _ Q8F (je7 _ _ _) hl hm (qb1 v)) ?_|refine Q6m ?_|refine Bc xb ?_|exact Be|fail)
def jio(z:Int):Int:=if z<0 then -1 else if z=0 then 0 else 1
theorem jec(z:Int)(v b o c:Nat)(hv:v=z.natAbs)(w:World):xa 33 #[.agg #[.bool (decide (z<0)),.bool false,.slice (some ⟨b,o,none⟩) (nl v) c]] w (xc (jio z)):=by
 refine qac (G:=tys) w tysOK mixed func33 Q8F Q8F Q8F ?_;subst hv;rcases Int.lt_trichotomy z 0 with h|h|h
 .have e1:jio z = -1:=by unfold jio;rw[if_pos h]
  have e2:nl z.natAbs≠0:=λe=>by have:=nl0 e;omega
  exact Q1e
 .have e1:jio z=0:=by unfold jio;rw[if_neg Q8E,if_pos h]
  have e2:nl z.natAbs=0:=by rw[h];exact qea
  exact Q1e
 .have e1:jio z=1:=by unfold jio;rw[if_neg Q8E,if_neg Q8E]
  have e2:nl z.natAbs≠0:=λe=>by have:=nl0 e;omega
  exact Q1e
theorem q6k(z:Int)(v b o c:Nat)(hv:v=z.natAbs)(h:Hp):qae prog 33 [.agg #[.bool (decide (z<0)),.bool false,.slice (some ⟨b,o,none⟩) (nl v) c]] h (xc (jio z)) [] []:=qai rfl rfl (call33 _) (jec z v b o c hv)
theorem jaf(x y:Int):((decide (x<0) != decide (y<0))&&decide (0<x.natAbs*y.natAbs))=decide (x*y<0):=by
 rcases Int.lt_trichotomy x 0 with h|h|h<;>rcases Int.lt_trichotomy y 0 with k|k|k
 all_goals first
  | (subst h;simp;done)
  | (subst k;simp;done)
  | (
    have h1:0<x.natAbs*y.natAbs:=zc Q8E Q8E
    rw[xf h1,za]
    first
     | (rw[xf h,xf k,xe (by have:=Int.mul_pos_of_neg_of_neg h k;omega)];rfl)
     | (rw[xf h,xe (by omega:¬ y<0),xf (Int.mul_neg_of_neg_of_pos h k)];rfl)
     | (rw[xe (by omega:¬ x<0),xf k,xf (Int.mul_neg_of_pos_of_neg h k)];rfl)
     | (rw[xe (by omega:¬ x<0),xe (by omega:¬ y<0),xe (by have:=Int.mul_pos h k;omega)];rfl))
theorem jqa(x y:Int)(hb:nl x.natAbs+nl y.natAbs<=31)(w:World)(xs:List Value)(hx:All2 (AR w) [bz x,bz y] xs):Mk prog 103 xs w (x*y).natAbs (bzW (x*y)):=by
 obtain⟨e,e',rfl,h1,v1,h2,v2⟩:=qs2 hx;have hm:(x*y).natAbs=e.v*e'.v:=by rw[v1,v2];exact yO x y
 refine qft (es:=[e,e']) (vs:=[.agg #[.bool (decide (x<0)),.bool false,.slice (some ⟨0,0,some 0⟩) (nl e.v) e.c],.agg #[.bool (decide (y<0)),.bool false,.slice (some ⟨1,0,some 0⟩) (nl e'.v) e'.c]]) (xs:=[e.big (decide (x<0)),e'.big (decide (y<0))]) w tysOK mixed func103 Q8F (qhw h1 h2) ⟨.big rfl,.big rfl,xb⟩ (λ_=>rfl) ?_;refine Q4Q ?_;refine Bu [0,1,2,3,4,5,6,7,8] [(9,[10,11])] Q8J ?_;refine Q0w ?_;refine qeb [0,1,5] _ Q8J (λh₂ hh=>qkc 5 Q8h (e.v*e'.v) Nm.sl (call135) (qs:=[.sl e.v,.sl e'.v]) ⟨.sl Q7B,.sl Q7u,xb⟩ (λ_=>rfl) (jea e.v e'.v (by rw[v1,v2];exact hb))) λv ms hR=>?_
 obtain⟨κ,hκ,rfl,rfl⟩:=hR;refine⟨by simp,?_⟩;have hsg:((decide (x<0) != decide (y<0))&&decide (0<κ.v))=decide (x*y<0):=by rw[hκ,v1,v2,jaf]
 repeat' (refine Ba ?_;first|refine Q55 ?_|refine Q53 ?_|refine Q54 ?_|refine Q6E ?_|refine Q5M ?_|refine N.endM κ 5 (hκ.trans hm.symm) (by rw[hsg]) Q8F Q7d|fail)
theorem jpg(a b:Nat)(i j m q:Nat)(h:Hp){o o2:Chunk}(hi:h[i]?=some (some o))(hin:je4 o m a)(hj:h[j]?=some (some o2))(hjn:je4 o2 q b)(hl:nl a<=m)(hm:m<=31)(hl2:nl b<=q)(hq:q<=31):
  qae prog 161 [.slice (some ⟨i,0,some 0⟩) (nl a) m,.slice (some ⟨j,0,some 0⟩) (nl b) q] h (xc (jhf a b)) [] [i,j]:=jre a b m q i j o o2 h hi hin hj hjn hl Q8E hl2 Q8E
theorem jrg(x y:Int)(a b:Nat)(hxa:a=x.natAbs)(hyb:b=y.natAbs)(ha:nl a<=30)(hb:nl b<=30)(w:World)(xs:List Value)(hx:All2 (AR w) [.big (decide (x<0)) a,.big (decide (y<0)) b] xs):Mk prog 133 xs w (x+y).natAbs (bzW (x+y)):=by
 obtain⟨e,e',rfl,h1,v1,h2,v2⟩:=qs2 hx;have q1:=h1.cap;have q2:=h2.cap;refine qft (es:=[e,e']) (vs:=[.agg #[.bool (decide (x<0)),.bool false,.slice (some ⟨0,0,some 0⟩) (nl e.v) e.c],.agg #[.bool (decide (y<0)),.bool false,.slice (some ⟨1,0,some 0⟩) (nl e'.v) e'.c]]) (xs:=[e.big (decide (x<0)),e'.big (decide (y<0))]) w tysOK mixed func133 Q8F (qhw h1 h2) ⟨.big rfl,.big rfl,xb⟩ (λ_=>rfl) ?_;refine Q0w ?_;by_cases hs:decide (x<0)=decide (y<0)
 .refine Bg (by rw[hs];simp) ?_;refine Q4p ?_;refine qeb [0,1,5] _ Q8J (λh₂ hh=>qkc 5 Q8h (e.v+e'.v) Nm.sl (call160) (qs:=[.sl e.v,.sl e'.v]) ⟨.sl Q7B,.sl Q7u,xb⟩ (λ_=>rfl) (jpe e.v e'.v (by rw[v1];exact ha) (by rw[v2];exact hb))) λv ms hR=>?_
  obtain⟨κ,hκ,rfl,rfl⟩:=hR;refine⟨by simp,?_⟩;have hsg:(decide (x<0)&&decide (0<κ.v))=decide (x+y<0):=by
   rw[hκ,v1,v2,hxa,hyb];exact Q2Y
  have hv:e.v+e'.v=(x+y).natAbs:=by rw[v1,v2,hxa,hyb];rw[decide_eq_decide] at hs;omega
  repeat' (refine Ba ?_;first|refine Q55 ?_|refine Q53 ?_|refine Q54 ?_|refine Q6E ?_|refine Q5M ?_|refine N.endM κ 5 (hκ.trans hv) (by rw[hsg]) Q8F Q7d|fail)
 .refine Bf (by simpa using hs) ?_;refine Ba ?_;refine Bb (jpg e.v e'.v 0 1 e.c e'.c _ Q8F (je7 _ _ _) Q8F (je7 _ _ _) h1.len h1.cap h2.len h2.cap) ?_;refine Q0w ?_;by_cases hle:e'.v<=e.v
  .refine Bg (by rw[xh];unfold jhf;rw[if_neg Q8E];split<;>decide) ?_;refine Ba ?_;refine Bv ?_;refine Ba ?_;refine Bu [0,1,2,3,4,5] [(6,[7,8])] Q8J ?_;repeat' (refine Ba ?_;first|refine Q55 ?_|refine Q53 ?_|refine Q54 ?_|fail)
   refine Ba ?_;refine qeb [0,1,5] _ Q8J (λh₂ hh=>qkc 5 Q8h (e.v-e'.v) Nm.sl (call162) (qs:=[.sl e.v,.sl e'.v]) ⟨.sl Q7B,.sl Q7u,xb⟩ (λ_=>rfl) (q6j e.v e'.v hle)) λv ms hR=>?_
   obtain⟨κ,hκ,rfl,rfl⟩:=hR;refine⟨by simp,?_⟩;have hsg:(decide (x<0)&&decide (0<κ.v))=decide (x+y<0):=by
    rw[hκ];rw[v1,v2,hxa,hyb] at hle ⊢;exact Q2Y
   have hv:e.v-e'.v=(x+y).natAbs:=by rw[v1,v2,hxa,hyb] at hle ⊢;rw[decide_eq_decide] at hs;omega
   repeat' (refine Ba ?_;first|refine Q55 ?_|refine Q53 ?_|refine Q54 ?_|refine Q6E ?_|refine Q5M ?_|refine N.endM κ 5 (hκ.trans hv) (by rw[hsg]) Q8F Q7d|fail)
  .refine Bf (by rw[xj];unfold jhf;rw[if_pos Q8E];decide) ?_;refine Q4p ?_;refine qeb [0,1,5] _ Q8J (λh₂ hh=>qkc 5 Q8h (e'.v-e.v) Nm.sl (call162) (qs:=[.sl e'.v,.sl e.v]) ⟨.sl Q7u,.sl Q7B,xb⟩ (λ_=>rfl) (q6j e'.v e.v Q8E)) λv ms hR=>?_
   obtain⟨κ,hκ,rfl,rfl⟩:=hR;refine⟨by simp,?_⟩;have hsg:(decide (y<0)&&decide (0<κ.v))=decide (x+y<0):=by
    rw[hκ];rw[v1,v2,hxa,hyb] at hle ⊢;exact Q2Y
   have hv:e'.v-e.v=(x+y).natAbs:=by rw[v1,v2,hxa,hyb] at hle ⊢;rw[decide_eq_decide] at hs;omega
   repeat' (refine Ba ?_;first|refine Q55 ?_|refine Q53 ?_|refine Q54 ?_|refine Q6E ?_|refine Q5M ?_|refine N.endM κ 5 (hκ.trans hv) (by rw[hsg]) Q8F Q7d|fail)
theorem jrh(x y:Int)(a b:Nat)(hxa:a=x.natAbs)(hyb:b=y.natAbs)(ha:nl a<=30)(hb:nl b<=30)(w:World)(xs:List Value)(hx:All2 (AR w) [.big (decide (x<0)) a,.big (decide (y<0)) b] xs):Mk prog 102 xs w (x-y).natAbs (bzW (x-y)):=by
 obtain⟨e,e',rfl,h1,v1,h2,v2⟩:=qs2 hx;have q1:=h1.cap;have q2:=h2.cap;have hng:decide (-y<0)=(!decide (y<0)&&decide (0<e'.v)):=by
  rw[v2,hyb,Bool.eq_iff_iff,xp,decide_eq_true_iff,decide_eq_true_iff,y8,xj];omega
 rw[Int.sub_eq_add_neg];refine qft (es:=[e,e']) (vs:=[.agg #[.bool (decide (x<0)),.bool false,.slice (some ⟨0,0,some 0⟩) (nl e.v) e.c],.agg #[.bool (decide (y<0)),.bool false,.slice (some ⟨1,0,some 0⟩) (nl e'.v) e'.c]]) (xs:=[e.big (decide (x<0)),e'.big (decide (y<0))]) w tysOK mixed func102 Q8F (qhw h1 h2) ⟨.big rfl,.big rfl,xb⟩ (λ_=>rfl) ?_;refine Q4Q ?_;refine Bu [0,1,2] [(3,[4])] Q8J ?_;repeat' (refine Ba ?_;first|refine Q55 ?_|refine Q53 ?_|refine Q54 ?_|refine Bb (jeb e'.v e'.c 1 (decide (y<0)) (decide (-y<0)) hng _ _ Q8F (je7 _ _ _) h2.len h2.cap) ?_|fail)
 refine Ba ?_;refine qeb [0,1,9] _ Q8J (λh₂ hh=>qkc 9 ((hh 9 Q8P).trans rfl) (x + -y).natAbs (bzW (x + -y)) (call133) (qs:=[.big (decide (x<0)) e.v,.big (decide (-y<0)) e'.v]) ⟨.big Q7B,.big Q7u,xb⟩ (λ_=>rfl) (jrg x (-y) e.v e'.v (by rw[v1,hxa]) (by rw[v2,hyb,yA]) (by rw[v1];exact ha) (by rw[v2];exact hb))) λv ms hR=>?_
 obtain⟨κ,hκ,rfl,rfl⟩:=hR;refine⟨by simp,?_⟩;repeat' (refine Ba ?_;first|refine Q55 ?_|refine Q53 ?_|refine Q54 ?_|refine Q5M ?_|refine N.endM κ 9 hκ rfl Q8F Q7d|fail)
theorem jph(a b d:Int)(had:nl a.natAbs+nl d.natAbs<=30)(hbb:nl b.natAbs+nl b.natAbs<=30)(w:World)(xs:List Value)(hx:All2 (AR w) [bz a,bz b,bz d] xs):Mk prog 67 xs w (a*d-b*b).natAbs (bzW (a*d-b*b)):=by
 obtain⟨e,e',e'',rfl,h1,v1,h2,v2,h3,v3⟩:=jad hx;have n1:nl (a*d).natAbs<=30:=by rw[yO];exact xC (nl_le.2 (qo0 _ _)) had
 have n2:nl (b*b).natAbs<=30:=by rw[yO];exact xC (nl_le.2 (qo0 _ _)) hbb
 refine qft (es:=[e,e',e'']) (vs:=[.agg #[.bool (decide (a<0)),.bool false,.slice (some ⟨0,0,some 0⟩) (nl e.v) e.c],.agg #[.bool (decide (b<0)),.bool false,.slice (some ⟨1,0,some 0⟩) (nl e'.v) e'.c],.agg #[.bool (decide (d<0)),.bool false,.slice (some ⟨2,0,some 0⟩) (nl e''.v) e''.c]]) (xs:=[e.big (decide (a<0)),e'.big (decide (b<0)),e''.big (decide (d<0))]) w tysOK mixed func67 Q8F (q4z h1 h2 h3) ⟨.big rfl,.big rfl,.big rfl,xb⟩ (λ_=>rfl) ?_;refine Q4Q ?_;refine Bu [0,1,3,4] [(2,[]),(5,[]),(6,[7])] Q8J ?_;refine Q0w ?_;refine qeb [0,2,7] _ Q8J (λh₂ hh=>qkc 7 ((hh 7 Q8P).trans rfl) (a*d).natAbs (bzW (a*d)) (call103) (qs:=[.big (decide (a<0)) e.v,.big (decide (d<0)) e''.v]) ⟨.big Q7B,.big (.ch Q7V (je7 _ _ _) h3.len h3.cap),xb⟩ (λ_=>rfl) (by rw[v1,v3];exact jqa a d Q8E)) λv ms hR=>?_
 obtain⟨κ,hκ,rfl,rfl⟩:=hR;refine⟨by simp,?_⟩;repeat' (refine Ba ?_;first|refine Q55 ?_|refine Q53 ?_|refine Q54 ?_|fail)
 refine Ba ?_;refine qeb [1,7] _ Q8J (λh₂ hh=>qrm 7 ((hh 7 Q8P).trans rfl) (b*b).natAbs (bzW (b*b)) (call103) (qs:=[.big (decide (b<0)) e'.v,.big (decide (b<0)) e'.v]) ⟨.big Q7u,.big Q7u,xb⟩ (λ_=>rfl) (by rw[v2];exact jqa b b Q8E)) λv ms hR=>?_
 obtain⟨κ',hκ',rfl,rfl⟩:=hR;refine⟨by simp,?_⟩;repeat' (refine Ba ?_;first|refine Q55 ?_|refine Q53 ?_|refine Q54 ?_|fail)
 refine Ba ?_;refine qeb [7] _ Q8J (λh₂ hh=>qrm 7 ((hh 7 Q8P).trans rfl) (a*d-b*b).natAbs (bzW (a*d-b*b)) (call102) (qs:=[.big (decide (a*d<0)) κ.v,.big (decide (b*b<0)) κ'.v]) ⟨.big (.ar Q8P),.big (.ar Q8P),xb⟩ (λ_=>rfl) (jrh (a*d) (b*b) κ.v κ'.v hκ hκ' (by rw[hκ];exact n1) (by rw[hκ'];exact n2))) λv ms hR=>?_
 obtain⟨κ3,hκ3,rfl,rfl⟩:=hR;refine⟨by simp,?_⟩;repeat' (refine Ba ?_;first|refine Q55 ?_|refine Q53 ?_|refine Q54 ?_|refine Q5M ?_|refine N.endM κ3 7 hκ3 rfl Q8F Q8P|fail)
theorem jri(a b d:Int)(ha : -9223372036854775808<=a/\a<9223372036854775808)(hb : -9223372036854775808<=b/\b<9223372036854775808)(hd : -9223372036854775808<=d/\d<9223372036854775808)(w:World)(xs:List Value)(hx:All2 (AR w) [.pl (.agg #[xc a,xc b,xc d])] xs):Mk prog 34 xs w (a*d-b*b).natAbs (bzW (a*d-b*b)):=by
 obtain rfl:=q6i hx;have n1:nl a.natAbs<=2:=(qfs (n:=a.natAbs) Q8E).2;have n2:nl b.natAbs<=2:=(qfs (n:=b.natAbs) Q8E).2;have n3:nl d.natAbs<=2:=(qfs (n:=d.natAbs) Q8E).2;refine qft (es:=[]) (vs:=[.agg #[xc a,xc b,xc d]]) (xs:=[.agg #[xc a,xc b,xc d]]) w tysOK mixed func34 Q8F (λe he=>by cases he) ⟨.pl rfl,xb⟩ (λ_=>rfl) ?_;refine Q4Q ?_;refine Bu [0,1,3,4,6,7] [(2,[]),(5,[]),(8,[]),(9,[10])] Q8J ?_;refine Q0w ?_;refine qeb [2] _ Q8J (λh₂ hh=>qkc 2 Q7V a.natAbs (bzW a) (call68) (qs:=[.pl (xc a)]) ⟨.pl rfl,xb⟩ (λ_=>rfl) (wOf a ha)) λv ms hR=>?_
 obtain⟨κ1,hκ1,rfl,rfl⟩:=hR;refine⟨by simp,?_⟩;repeat' (refine Ba ?_;first|refine Q55 ?_|refine Q53 ?_|refine Q54 ?_|fail)
 refine Ba ?_;refine qeb [2] _ Q8J (λh₂ hh=>qrm 2 Q7V b.natAbs (bzW b) (call68) (qs:=[.pl (xc b)]) ⟨.pl rfl,xb⟩ (λ_=>rfl) (wOf b hb)) λv ms hR=>?_
 obtain⟨κ2,hκ2,rfl,rfl⟩:=hR;refine⟨by simp,?_⟩;repeat' (refine Ba ?_;first|refine Q55 ?_|refine Q53 ?_|refine Q54 ?_|fail)
 refine Ba ?_;refine qeb [2] _ Q8J (λh₂ hh=>qrm 2 Q7V d.natAbs (bzW d) (call68) (qs:=[.pl (xc d)]) ⟨.pl rfl,xb⟩ (λ_=>rfl) (wOf d hd)) λv ms hR=>?_
 obtain⟨κ3,hκ3,rfl,rfl⟩:=hR;refine⟨by simp,?_⟩;repeat' (refine Ba ?_;first|refine Q55 ?_|refine Q53 ?_|refine Q54 ?_|fail)
 refine Ba ?_;refine qeb [2] _ Q8J (λh₂ hh=>qrm 2 Q7V (a*d-b*b).natAbs (bzW (a*d-b*b)) (call67) (qs:=[.big (decide (a<0)) κ1.v,.big (decide (b<0)) κ2.v,.big (decide (d<0)) κ3.v]) ⟨.big (.ar Q8P),.big (.ar Q8P),.big (.ar Q8P),xb⟩ (λ_=>rfl) (by rw[hκ1,hκ2,hκ3];exact jph a b d Q8E Q8E)) λv ms hR=>?_
 obtain⟨κ4,hκ4,rfl,rfl⟩:=hR;refine⟨by simp,?_⟩;repeat' (refine Ba ?_;first|refine Q55 ?_|refine Q53 ?_|refine Q54 ?_|refine Q5M ?_|refine N.endM κ4 2 hκ4 rfl Q8F Q8P|fail)
theorem q1f(n m:Int)(hm:0<=m/\m<=1152921504606846976)(w:World):xa 32 #[xc n,xc m] w (.bool (decide (-m<=n/\n<=m))):=by
 have hw:=jep (0-m) Q8E Q8E;refine qac (G:=tys) w tysOK mixed func32 Q8F Q8F Q8F ?_;repeat' (refine Ba ?_;first|refine Q55 ?_|refine Q51 ?_|with_reducible refine Bi (λhb=>?_) (λhb=>?_)|fail)
 all_goals try rw[hw] at *
 all_goals
  refine jfn ?_
  simp only[xh,xj,xz,false_iff,true_iff,iff_true,iff_false,reduceCtorEq,ya,xy,yb,xR] at *
  omega
theorem qek(n m:Int)(hm:0<=m/\m<=1152921504606846976)(h:Hp):qae prog 32 [xc n,xc m] h (.bool (decide (-m<=n/\n<=m))) [] []:=qai rfl rfl (call32 _) (q1f n m hm)
theorem qs3(x y:Int)(w:World):xa 31 #[.agg #[xc x,xc y]] w (.bool (decide (qaz 4194304 x y))):=by
 refine qac (G:=tys) w tysOK mixed func31 Q8F Q8F Q8F ?_;repeat' (refine Ba ?_;first|refine Q55 ?_|refine Q51 ?_|refine Bb (qek _ _ Q8I _) ?_|with_reducible refine Bi (λhb=>?_) (λhb=>?_)|fail)
 all_goals
  refine jfn ?_
  simp only[xh,xj,xz,false_iff,true_iff,iff_true,iff_false,reduceCtorEq,ya,xy,yb,xR] at *
  try simp only[qaz] at *
  omega
theorem qdl(x y:Int)(h:Hp):qae prog 31 [.agg #[xc x,xc y]] h (.bool (decide (qaz 4194304 x y))) [] []:=qai rfl rfl (call31 _) (qs3 x y)
theorem jag(s:Int)(w:World):xa 52 #[xc s] w (.bool (decide (0<=s/\s<=1000000))):=by
 refine qac (G:=tys) w tysOK mixed func52 Q8F Q8F Q8F ?_;exact Q0I
theorem qje(s:Int)(h:Hp):qae prog 52 [xc s] h (.bool (decide (0<=s/\s<=1000000))) [] []:=qai rfl rfl (call52 _) (jag s)
theorem q40(z:Int):decide (jio z > 0)=decide (0<z):=by
 unfold jio;split
 .rw[xe Q8I,xe Q8E]
 .split
  .rw[xe Q8I,xe Q8E]
  .rw[xf Q8I,xf Q8E]
theorem jah(x y a b d:Int)(w:World):xa 8 #[.agg #[xc x,xc y,xc a,xc b,xc d]] w (.bool (decide (mayP x y a b d))):=by
 by_cases hr:qaz 4194304 x y/\(1<=a/\a<=70368744177664)/\(1<=d/\d<=70368744177664)/\(-70368744177664<=b/\b<=70368744177664)
 .obtain⟨p1,⟨p2,p3⟩,⟨p4,p5⟩,p6,p7⟩:=hr;have he:decide (mayP x y a b d)=decide (jio (a*d-b*b) > 0):=by
   rw[q40,decide_eq_decide];unfold mayP;exact⟨λh=>h.2.2.2.2,λh=>⟨p1,⟨p2,p3⟩,⟨p4,p5⟩,⟨p6,p7⟩,h⟩⟩
  rw[he];refine qac (G:=tys) w tysOK mixed func8 Q8F Q8F Q8F ?_;repeat' (refine Ba ?_;first|refine Q55 ?_|refine Q51 ?_|refine Q6F ?_|refine Q5T ?_|fail)
  refine Ba ?_;refine Bh (qkc 2 Q8F (a*d-b*b).natAbs (bzW (a*d-b*b)) (call34) (qs:=[.pl (.agg #[xc a,xc b,xc d])]) ⟨.pl rfl,xb⟩ (λ_=>rfl) (jri a b d ⟨by omega,by omega⟩ ⟨by omega,by omega⟩ ⟨by omega,by omega⟩)) λv ms hR=>?_
  obtain⟨κ,hκ,rfl,rfl⟩:=hR;repeat' (refine Ba ?_;first|refine Q55 ?_|refine Q51 ?_|refine Q6F ?_|refine Q5T ?_|fail)
  all_goals rfl
 .have he:decide (mayP x y a b d)=false:=by
   rw[xj];intro h;unfold mayP at h;exact hr ⟨h.1,h.2.1,h.2.2.1,h.2.2.2.1⟩
  rw[he];refine qac (G:=tys) w tysOK mixed func8 Q8F Q8F Q8F ?_;by_cases q1:qaz 4194304 x y
  .by_cases q2:1<=a
   .by_cases q3:a<=70368744177664
    .by_cases q4:1<=d
     .by_cases q5:d<=70368744177664
      .have q6:¬ (-70368744177664<=b/\b<=70368744177664):=λh=>hr ⟨q1,⟨q2,q3⟩,⟨q4,q5⟩,h⟩
       exact Q0y
      .exact Q0y
     .exact Q0y
    .exact Q0y
   .exact Q0y
  .exact Q0y
theorem jl9(x y a b d:Int)(h:Hp):qae prog 8 [.agg #[xc x,xc y,xc a,xc b,xc d]] h (.bool (decide (mayP x y a b d))) [] []:=qai rfl rfl (call8 _) (jah x y a b d)
open Go Go.RowKit Sx
theorem jed(n:Int)(w:World):xa 50 #[xc n] w (.bool (decide (0<=n/\n<64))):=by
 refine qac (G:=tys) w tysOK mixed func50 Q8F Q8H Q8G ?_;exact Q0o
theorem jpi(n:Int)(h:Hp):qae prog 50 [xc n] h (.bool (decide (0<=n/\n<64))) [] []:=qai rfl rfl (call50 _) (jed n)
theorem q41(n:Int)(w:World):xa 53 #[xc n] w (.bool (decide (0<=n/\n<=70368744177664))):=by
 refine qac (G:=tys) w tysOK mixed func53 Q8F Q8H Q8G ?_;exact Q0o
theorem ql6(n:Int)(h:Hp):qae prog 53 [xc n] h (.bool (decide (0<=n/\n<=70368744177664))) [] []:=qai rfl rfl (call53 _) (q41 n)
theorem q42(n:Int)(w:World):xa 54 #[xc n] w (.bool (decide (0<=n/\n<=4294967295))):=by
 refine qac (G:=tys) w tysOK mixed func54 Q8F Q8H Q8G ?_;exact Q0o
theorem ql7(n:Int)(h:Hp):qae prog 54 [xc n] h (.bool (decide (0<=n/\n<=4294967295))) [] []:=qai rfl rfl (call54 _) (q42 n)
theorem jai(n:Int)(w:World):xa 51 #[xc n] w (.bool (decide (0<=n/\n<=65535))):=by
 refine qac (G:=tys) w tysOK mixed func51 Q8F Q8H Q8G ?_;exact Q0o
theorem qjf(n:Int)(h:Hp):qae prog 51 [xc n] h (.bool (decide (0<=n/\n<=65535))) [] []:=qai rfl rfl (call51 _) (jai n)
theorem ql8(x y:Operand)(k s b q st a0 a1 a2 a3 a4 a5 a6 a7 a8 a9 b0 b1 b2 b3 b4 b5 b6 b7 b8 b9:Int):BinIs prog .eql 36 x y (frF k s b q st a0 a1 a2 a3 a4 a5 a6 a7 a8 a9) (frF k s b q st b0 b1 b2 b3 b4 b5 b6 b7 b8 b9) (.bool (decide (a0=b0/\a1=b1/\a2=b2/\a3=b3/\a4=b4/\a5=b5/\a6=b6/\a7=b7/\a8=b8/\a9=b9))):=
 ⟨rfl,rfl,rfl,λw=>by
  go_simp
  by_cases h0:a0=b0;rotate_left
  .simp[h0]
  by_cases h1:a1=b1;rotate_left
  .simp[h0,h1]
  by_cases h2:a2=b2;rotate_left
  .simp[h0,h1,h2]
  by_cases h3:a3=b3;rotate_left
  .simp[h0,h1,h2,h3]
  by_cases h4:a4=b4;rotate_left
  .simp[h0,h1,h2,h3,h4]
  by_cases h5:a5=b5;rotate_left
  .simp[h0,h1,h2,h3,h4,h5]
  by_cases h6:a6=b6;rotate_left
  .simp[h0,h1,h2,h3,h4,h5,h6]
  by_cases h7:a7=b7;rotate_left
  .simp[h0,h1,h2,h3,h4,h5,h6,h7]
  by_cases h8:a8=b8;rotate_left
  .simp[h0,h1,h2,h3,h4,h5,h6,h7,h8]
  by_cases h9:a9=b9;rotate_left
  .simp[h0,h1,h2,h3,h4,h5,h6,h7,h8,h9]
  simp[h0,h1,h2,h3,h4,h5,h6,h7,h8,h9]⟩
theorem jrj{p:Prop}[Decidable p](h:p):(!decide p)=false:=by rw[xf h];rfl
theorem jrk{p:Prop}[Decidable p](h:¬ p):(!decide p)=true:=by rw[xe h];rfl
theorem jrl(s b q st ds t1 t2 wh wn x y a c d:Int)(w:World):xa 12 #[frF 1 s b q st ds t1 t2 wh wn x y a c d] w (.bool (decide (Frm.may ⟨1,s,b,q,st,ds,t1,t2,wh,wn,x,y,a,c,d⟩))):=by
 rw[show(decide (Frm.may ⟨1,s,b,q,st,ds,t1,t2,wh,wn,x,y,a,c,d⟩))=decide ((0<=s/\s<64)/\(0<=b/\b<=65535)/\(0<=q/\q<=65535)/\(0<=st/\st<=1000000)/\ds=0/\t1=0/\t2=0/\wh=0/\wn=0/\x=0/\y=0/\a=0/\c=0/\d=0) from decide_eq_decide.2 ⟨λh=>⟨h.2.1.1,h.2.1.2.1,h.2.1.2.2.1,h.2.1.2.2.2,h.2.2.1,h.2.2.2.1,h.2.2.2.2.1,h.2.2.2.2.2.1,h.2.2.2.2.2.2.1,h.2.2.2.2.2.2.2.1,h.2.2.2.2.2.2.2.2.1,h.2.2.2.2.2.2.2.2.2.1,h.2.2.2.2.2.2.2.2.2.2.1,h.2.2.2.2.2.2.2.2.2.2.2⟩,λh=>⟨xb,⟨h.1,h.2.1,h.2.2.1,h.2.2.2.1⟩,⟨h.2.2.2.2.1,h.2.2.2.2.2.1,h.2.2.2.2.2.2.1,h.2.2.2.2.2.2.2.1,h.2.2.2.2.2.2.2.2.1,h.2.2.2.2.2.2.2.2.2.1,h.2.2.2.2.2.2.2.2.2.2.1,h.2.2.2.2.2.2.2.2.2.2.2.1,h.2.2.2.2.2.2.2.2.2.2.2.2.1,h.2.2.2.2.2.2.2.2.2.2.2.2.2⟩⟩⟩];exact Q0e
theorem jrm(s b q st ds t1 t2 wh wn x y a c d:Int)(w:World):xa 12 #[frF 7 s b q st ds t1 t2 wh wn x y a c d] w (.bool (decide (Frm.may ⟨7,s,b,q,st,ds,t1,t2,wh,wn,x,y,a,c,d⟩))):=by
 rw[show(decide (Frm.may ⟨7,s,b,q,st,ds,t1,t2,wh,wn,x,y,a,c,d⟩))=decide ((0<=s/\s<64)/\(0<=b/\b<=65535)/\(0<=q/\q<=65535)/\(0<=st/\st<=1000000)/\ds=0/\t1=0/\t2=0/\wh=0/\wn=0/\x=0/\y=0/\a=0/\c=0/\d=0) from decide_eq_decide.2 ⟨λh=>⟨h.2.1.1,h.2.1.2.1,h.2.1.2.2.1,h.2.1.2.2.2,h.2.2.1,h.2.2.2.1,h.2.2.2.2.1,h.2.2.2.2.2.1,h.2.2.2.2.2.2.1,h.2.2.2.2.2.2.2.1,h.2.2.2.2.2.2.2.2.1,h.2.2.2.2.2.2.2.2.2.1,h.2.2.2.2.2.2.2.2.2.2.1,h.2.2.2.2.2.2.2.2.2.2.2⟩,λh=>⟨xb,⟨h.1,h.2.1,h.2.2.1,h.2.2.2.1⟩,⟨h.2.2.2.2.1,h.2.2.2.2.2.1,h.2.2.2.2.2.2.1,h.2.2.2.2.2.2.2.1,h.2.2.2.2.2.2.2.2.1,h.2.2.2.2.2.2.2.2.2.1,h.2.2.2.2.2.2.2.2.2.2.1,h.2.2.2.2.2.2.2.2.2.2.2.1,h.2.2.2.2.2.2.2.2.2.2.2.2.1,h.2.2.2.2.2.2.2.2.2.2.2.2.2⟩⟩⟩];exact Q0e
theorem jrn(s b q st ds t1 t2 wh wn x y a c d:Int)(w:World):xa 12 #[frF 2 s b q st ds t1 t2 wh wn x y a c d] w (.bool (decide (Frm.may ⟨2,s,b,q,st,ds,t1,t2,wh,wn,x,y,a,c,d⟩))):=by
 rw[show(decide (Frm.may ⟨2,s,b,q,st,ds,t1,t2,wh,wn,x,y,a,c,d⟩))=decide ((0<=s/\s<64)/\(0<=b/\b<=65535)/\(0<=q/\q<=65535)/\(0<=st/\st<=1000000)/\(0<=ds/\ds<64)/\¬ ds=s/\t1=0/\t2=0/\wh=0/\wn=0/\x=0/\y=0/\a=0/\c=0/\d=0) from decide_eq_decide.2 ⟨λh=>⟨h.2.1.1,h.2.1.2.1,h.2.1.2.2.1,h.2.1.2.2.2,h.1.1,h.1.2,h.2.2.2.1,h.2.2.2.2.1,h.2.2.2.2.2.1,h.2.2.2.2.2.2.1,h.2.2.2.2.2.2.2.1,h.2.2.2.2.2.2.2.2.1,h.2.2.2.2.2.2.2.2.2.1,h.2.2.2.2.2.2.2.2.2.2.1,h.2.2.2.2.2.2.2.2.2.2.2⟩,λh=>⟨⟨h.2.2.2.2.1,h.2.2.2.2.2.1⟩,⟨h.1,h.2.1,h.2.2.1,h.2.2.2.1⟩,⟨rfl,h.2.2.2.2.2.2.1,h.2.2.2.2.2.2.2.1,h.2.2.2.2.2.2.2.2.1,h.2.2.2.2.2.2.2.2.2.1,h.2.2.2.2.2.2.2.2.2.2.1,h.2.2.2.2.2.2.2.2.2.2.2.1,h.2.2.2.2.2.2.2.2.2.2.2.2.1,h.2.2.2.2.2.2.2.2.2.2.2.2.2.1,h.2.2.2.2.2.2.2.2.2.2.2.2.2.2⟩⟩⟩];exact Q0e
theorem jro(s b q st ds t1 t2 wh wn x y a c d:Int)(w:World):xa 12 #[frF 3 s b q st ds t1 t2 wh wn x y a c d] w (.bool (decide (Frm.may ⟨3,s,b,q,st,ds,t1,t2,wh,wn,x,y,a,c,d⟩))):=by
 rw[show(decide (Frm.may ⟨3,s,b,q,st,ds,t1,t2,wh,wn,x,y,a,c,d⟩))=decide ((0<=s/\s<64)/\(0<=b/\b<=65535)/\(0<=q/\q<=65535)/\(0<=st/\st<=1000000)/\(0<=ds/\ds<64)/\¬ ds=s/\(0<=t1/\t1<=4294967295)/\t2=0/\wh=0/\wn=0/\x=0/\y=0/\a=0/\c=0/\d=0) from decide_eq_decide.2 ⟨λh=>⟨h.2.1.1,h.2.1.2.1,h.2.1.2.2.1,h.2.1.2.2.2,h.1.1,h.1.2.1,h.1.2.2,h.2.2.2.2.1,h.2.2.2.2.2.1,h.2.2.2.2.2.2.1,h.2.2.2.2.2.2.2.1,h.2.2.2.2.2.2.2.2.1,h.2.2.2.2.2.2.2.2.2.1,h.2.2.2.2.2.2.2.2.2.2.1,h.2.2.2.2.2.2.2.2.2.2.2⟩,λh=>⟨⟨h.2.2.2.2.1,h.2.2.2.2.2.1,h.2.2.2.2.2.2.1⟩,⟨h.1,h.2.1,h.2.2.1,h.2.2.2.1⟩,⟨rfl,rfl,h.2.2.2.2.2.2.2.1,h.2.2.2.2.2.2.2.2.1,h.2.2.2.2.2.2.2.2.2.1,h.2.2.2.2.2.2.2.2.2.2.1,h.2.2.2.2.2.2.2.2.2.2.2.1,h.2.2.2.2.2.2.2.2.2.2.2.2.1,h.2.2.2.2.2.2.2.2.2.2.2.2.2.1,h.2.2.2.2.2.2.2.2.2.2.2.2.2.2⟩⟩⟩];exact Q0e
theorem jrp(s b q st ds t1 t2 wh wn x y a c d:Int)(w:World):xa 12 #[frF 4 s b q st ds t1 t2 wh wn x y a c d] w (.bool (decide (Frm.may ⟨4,s,b,q,st,ds,t1,t2,wh,wn,x,y,a,c,d⟩))):=by
 rw[show(decide (Frm.may ⟨4,s,b,q,st,ds,t1,t2,wh,wn,x,y,a,c,d⟩))=decide ((0<=s/\s<64)/\(0<=b/\b<=65535)/\(0<=q/\q<=65535)/\(0<=st/\st<=1000000)/\(0<=ds/\ds<64)/\¬ ds=s/\(0<=t1/\t1<=70368744177664)/\(0<=t2/\t2<=70368744177664)/\(0<=wn/\wn<=4294967295)/\wh=0/\x=0/\y=0/\a=0/\c=0/\d=0) from decide_eq_decide.2 ⟨λh=>⟨h.2.1.1,h.2.1.2.1,h.2.1.2.2.1,h.2.1.2.2.2,h.1.1,h.1.2.1,h.1.2.2.1,h.1.2.2.2.1,h.1.2.2.2.2,h.2.2.2.2.2.1,h.2.2.2.2.2.2.2.1,h.2.2.2.2.2.2.2.2.1,h.2.2.2.2.2.2.2.2.2.1,h.2.2.2.2.2.2.2.2.2.2.1,h.2.2.2.2.2.2.2.2.2.2.2⟩,λh=>⟨⟨h.2.2.2.2.1,h.2.2.2.2.2.1,h.2.2.2.2.2.2.1,h.2.2.2.2.2.2.2.1,h.2.2.2.2.2.2.2.2.1⟩,⟨h.1,h.2.1,h.2.2.1,h.2.2.2.1⟩,⟨rfl,rfl,rfl,h.2.2.2.2.2.2.2.2.2.1,rfl,h.2.2.2.2.2.2.2.2.2.2.1,h.2.2.2.2.2.2.2.2.2.2.2.1,h.2.2.2.2.2.2.2.2.2.2.2.2.1,h.2.2.2.2.2.2.2.2.2.2.2.2.2.1,h.2.2.2.2.2.2.2.2.2.2.2.2.2.2⟩⟩⟩];exact Q0e
theorem jrq(s b q st ds t1 t2 wh wn x y a c d:Int)(hm:mayP x y a c d)(w:World):xa 12 #[frF 5 s b q st ds t1 t2 wh wn x y a c d] w (.bool (decide (Frm.may ⟨5,s,b,q,st,ds,t1,t2,wh,wn,x,y,a,c,d⟩))):=by
 rw[show(decide (Frm.may ⟨5,s,b,q,st,ds,t1,t2,wh,wn,x,y,a,c,d⟩))=decide ((0<=s/\s<64)/\(0<=b/\b<=65535)/\(0<=q/\q<=65535)/\(0<=st/\st<=1000000)/\ds=0/\t1=0/\t2=0/\wh=0/\wn=0) from decide_eq_decide.2 ⟨λh=>⟨h.2.1.1,h.2.1.2.1,h.2.1.2.2.1,h.2.1.2.2.2,h.2.2.1,h.2.2.2.1,h.2.2.2.2.1,h.2.2.2.2.2.1,h.2.2.2.2.2.2.1⟩,λh=>⟨hm,⟨h.1,h.2.1,h.2.2.1,h.2.2.2.1⟩,⟨h.2.2.2.2.1,h.2.2.2.2.2.1,h.2.2.2.2.2.2.1,h.2.2.2.2.2.2.2.1,h.2.2.2.2.2.2.2.2,rfl,rfl,rfl,rfl,rfl⟩⟩⟩];exact Q17
theorem jrr(s b q st ds t1 t2 wh wn x y a c d:Int)(hm:¬ mayP x y a c d)(w:World):xa 12 #[frF 5 s b q st ds t1 t2 wh wn x y a c d] w (.bool false):=Q1q
theorem jrs(s b q st ds t1 t2 wh wn x y a c d:Int)(hm:mayP x y a c d)(w:World):xa 12 #[frF 6 s b q st ds t1 t2 wh wn x y a c d] w (.bool (decide (Frm.may ⟨6,s,b,q,st,ds,t1,t2,wh,wn,x,y,a,c,d⟩))):=by
 rw[show(decide (Frm.may ⟨6,s,b,q,st,ds,t1,t2,wh,wn,x,y,a,c,d⟩))=decide ((0<=s/\s<64)/\(0<=b/\b<=65535)/\(0<=q/\q<=65535)/\(0<=st/\st<=1000000)/\(0<=wh/\wh<64)/\¬ wh=s/\(0<=wn)/\(wn<=st)/\ds=0/\t1=0/\t2=0) from decide_eq_decide.2 ⟨λh=>⟨h.2.1.1,h.2.1.2.1,h.2.1.2.2.1,h.2.1.2.2.2,h.1.1,h.1.2.1,h.1.2.2.1.1,h.1.2.2.1.2,h.2.2.1,h.2.2.2.1,h.2.2.2.2.1⟩,λh=>⟨⟨h.2.2.2.2.1,h.2.2.2.2.2.1,⟨h.2.2.2.2.2.2.1,h.2.2.2.2.2.2.2.1⟩,hm⟩,⟨h.1,h.2.1,h.2.2.1,h.2.2.2.1⟩,⟨h.2.2.2.2.2.2.2.2.1,h.2.2.2.2.2.2.2.2.2.1,h.2.2.2.2.2.2.2.2.2.2,rfl,rfl,rfl,rfl,rfl,rfl,rfl⟩⟩⟩];exact Q17
theorem jrt(s b q st ds t1 t2 wh wn x y a c d:Int)(hm:¬ mayP x y a c d)(w:World):xa 12 #[frF 6 s b q st ds t1 t2 wh wn x y a c d] w (.bool false):=Q1q
theorem jru(k s b q st ds t1 t2 wh wn x y a c d:Int)(hk:¬ (1<=k/\k<=7))(w:World):xa 12 #[frF k s b q st ds t1 t2 wh wn x y a c d] w (.bool false):=by
 by_cases h1:k<1;all_goals
  refine qac (G:=tys) w tysOK mixed func12 Q8F Q8F Q8F ?_
  repeat' (refine Ba ?_;first|refine Q4Z ?_|refine Q5T ?_|refine Q5U ?_|fail)
  all_goals rfl
theorem qrn(f:Frm)(w:World):xa 12 #[fmV f] w (.bool (decide f.may)):=by
 obtain⟨k,s,b,q,st,ds,t1,t2,wh,wn,x,y,a,c,d⟩:=f;by_cases hk:1<=k/\k<=7;rotate_left
 .rw[xe (show ¬ Frm.may ⟨k,s,b,q,st,ds,t1,t2,wh,wn,x,y,a,c,d⟩ from λh=>by
   have:=h.1;unfold Frm.own at this;simp only at this;rw[if_neg Q8E,if_neg Q8E,if_neg Q8E,if_neg Q8E,if_neg Q8E,if_neg Q8E,if_neg Q8E] at this;exact this)]
  exact jru k s b q st ds t1 t2 wh wn x y a c d hk w
 have hc:k=1\/k=2\/k=3\/k=4\/k=5\/k=6\/k=7:=by omega
 rcases hc with rfl|rfl|rfl|rfl|rfl|rfl|rfl
 .exact jrl s b q st ds t1 t2 wh wn x y a c d w
 .exact jrn s b q st ds t1 t2 wh wn x y a c d w
 .exact jro s b q st ds t1 t2 wh wn x y a c d w
 .exact jrp s b q st ds t1 t2 wh wn x y a c d w
 .by_cases hm:mayP x y a c d
  .exact jrq s b q st ds t1 t2 wh wn x y a c d hm w
  .rw[xe (show ¬ Frm.may ⟨5,s,b,q,st,ds,t1,t2,wh,wn,x,y,a,c,d⟩ from λh=>hm h.1)];exact jrr s b q st ds t1 t2 wh wn x y a c d hm w
 .by_cases hm:mayP x y a c d
  .exact jrs s b q st ds t1 t2 wh wn x y a c d hm w
  .rw[xe (show ¬ Frm.may ⟨6,s,b,q,st,ds,t1,t2,wh,wn,x,y,a,c,d⟩ from λh=>hm h.1.2.2.2)];exact jrt s b q st ds t1 t2 wh wn x y a c d hm w
 .exact jrm s b q st ds t1 t2 wh wn x y a c d w
theorem qvj(f:Frm)(h:Hp):qae prog 12 [fmV f] h (.bool (decide f.may)) [] []:=qai rfl rfl (call12 _) (qrn f)
variable{bs:List Int}
theorem jee{r:Rw}(hr:BufOK r bs)(hA:RwAt w r):r.o=0/\ByAt w ⟨r.b,r.c,bs⟩:=by
 obtain⟨q4,cur,z,hh,hz,hs⟩:=hA.own hr.w;have hl:r.xs.length=bs.length:=by rw[hr.xs,yW]
 refine⟨q4,hA.lt,λj hj=>?_,λj hj=>?_⟩
 .have hj:j<bs.length:=hj;have h1:=hA.cell j Q8E;rw[q4,xr,hr.xs,yl,xt hj] at h1;show w.cell? ⟨r.b,j,none⟩=some (.int .u8 (bs.getD j 0));rw[h1,xT,xt hj];rfl
 .have hj:j<bs.length:=hj;have hc:=hA.cap;have hn:=hr.n;have hk:=hr.k;rw[hk,x6] at hs;exact(qu3 hh hz j Q8E).2
theorem jef{r:Rw}(hr:BufOK r bs)(h0:r.o=0):(some r.sl:Option Sl)=(By.mk r.b r.c bs).s:=by
 show(some ⟨r.b,r.o,r.n,r.c,none⟩:Option Sl)=some ⟨r.b,0,bs.length,r.c,none⟩;rw[h0,hr.n]
open Go Go.RowKit Sx
theorem q1g(k:Nat)(hk:k<256)(w:World):xa 76 #[xc (k:Int)] w (.int .u32 (jim k)):=by
 refine qac (G:=tys) w tysOK mixed func76 Q8F Q8F Q8F ?_;refine Q0V ?_;refine Bo (α:=Nat) (λm=>m<=8) (λm=>8-m) (λm=>[(3,.int .u32 (jjg (IntKind.u32.wrap (k:Int)) m)),(6,xc (m:Int))]) (λm=>[]) 0 Q8I ?_ ?_
 .exact Q0B
 intro m hm;have hm:m<=8:=hm;by_cases hm8:m<8
 .exact Q28
 .obtain rfl:m=8:=by omega
  repeat' (refine Ba ?_;first|refine Q4Z ?_|refine Q5T ?_|refine Q5U ?_|fail)
  all_goals rfl
theorem qvk(k:Int)(hk:0<=k/\k<256)(h:Hp):qae prog 76 [xc k] h (.int .u32 (jim k.toNat)) [] []:=by
 obtain⟨n,rfl⟩:=yL hk.1;exact qai rfl rfl (call76 _) (q1g n Q8E)
theorem qm9(a b:Int):jfp a b=jfp b a:=by unfold jfp;rw[BitVec.xor_comm]
theorem jeg[ZW](rb:Rw)(R:List Rw)(bs:List Int)(hB:BufOK rb bs)(hl:bs.length<=1000)(hb:rb∈R)(i:Nat)(h:Hp)(hi:h[i]?=some (some (rvC R))):
  qae prog 45 [uV (some rb.sl)] h (.int .u32 (sumN bs)) [(i,rvC R)] []:=by
 refine qaq (G:=tys) (λ_:Unit=>True) (λ_=>_) [⟨i,rvC R,rvC R,rvC R⟩] [] [uV (some rb.sl)] tysOK mixed func45 Q8F (call45) ⟨hi,xb⟩ Q7e Q8K Q77 xb ⟨.quo,xb⟩ Opens.same ?_
 rintro⟨⟩ -
 have hbn:=hB.n
 have hlb:((uN (some rb.sl):Nat):Int)=((bs.length:Nat):Int):=by show((rb.n:Nat):Int)=_;rw[hbn]
 repeat' (refine Ba ?_;first|refine Q4Z ?_|refine Q5P ?_|fail)
 refine Ba ?_
 refine Bq (α:=Nat) (λk=>k<=bs.length) (λk=>bs.length-k) (λk=>[(3,.int .u32 (sumK bs k)),(8,xc (k:Int))]) (λk=>[]) 0 [(0,0)] (xn _) ?_ ?_
 .exact Q0v
 intro k hk
 have hk:k<=bs.length:=hk
 by_cases hkl:k<bs.length
 .obtain⟨c,hc⟩:∃c,bs[k]?=some c:=⟨_,xt hkl⟩;have hs:=qlw hc;generalize sumK bs k=s0 at hs;obtain⟨x0,x1⟩:=qsu (IntKind.u8.wrap s0) c;have es:sumK bs (k+1)=jfp (jim (xor8 (IntKind.u8.wrap s0) c).toNat) (jgy s0 8):=hs.trans (qm9 _ _);have ex:IntKind.i64.wrap (xor8 (IntKind.u8.wrap s0) c)=(xor8 (IntKind.u8.wrap s0) c):=jep _ Q8E Q8E;have hent:∀h,qae prog 76 [xc (IntKind.i64.wrap (xor8 (IntKind.u8.wrap s0) c))] h (.int .u32 (jim (xor8 (IntKind.u8.wrap s0) c).toNat)) [] []:=λh=>by rw[ex];exact qvk _ ⟨x0,x1⟩ h
  have ek:((k+1:Nat):Int)=IntKind.i64.wrap ((k:Int)+1):=by rw[jep _ Q8E Q8E];rfl
  repeat' (refine Ba ?_;first|refine Q4Z ?_|refine Bb (hent _) ?_|refine Bm (qc6 (sz:=1) (g:=rb.o+k) tysOK rfl rfl Q7R rfl Q8X Q8E (by show((k:Nat):Int)<((rb.n:Nat):Int);omega) (by show rb.o+((k:Nat):Int).toNat*1=_;rw[yY,x6])) ?_|refine Bm (qu5 (i:=0) rb (v:=.int .u8 c) k tysOK rfl rfl rfl Q8F hb Q8X rfl (by rw[hB.xs,yl,hc];rfl)) ?_|refine Q5T ?_|fail)
  exact Q34
 .exact Q1u
theorem q43(n:Int)(m:Nat)(hm:m<=7):qi9 (IntKind.u64.wrap n) m=qi9 n m:=by
 have hc:m=0\/m=1\/m=2\/m=3\/m=4\/m=5\/m=6\/m=7:=by omega
 unfold qi9;rw[xk];rcases hc with rfl|rfl|rfl|rfl|rfl|rfl|rfl|rfl<;>simp<;>omega
theorem q1h(n:Int)(m:Nat)(hm:m<=7):IntKind.u8.wrap ((IntKind.u64.wrap n).fdiv (2^sh ((8*m:Nat):Int) IntKind.u64))=qi9 n m:=by
 have h1:sh ((8*m:Nat):Int) IntKind.u64=8*m:=by
  unfold sh;rw[yY];show min (8*m) 64=8*m;omega
 have h2:(2:Int)^(8*m)=256^m:=by rw[Int.pow_mul];rfl
 rw[h1,h2,wrap_u8,zk _ (Int.pow_nonneg Q8I)];exact q43 n m hm
theorem qga[ZW](r:Rw)(R:List Rw)(bs:List Int)(hr:BufOK r bs)(n:Int)(w:Nat)(hw:1<=w/\w<=8)(hl:bs.length<=1000)(i:Nat)(h:Hp)(hi:h[i]?=some (some (rvC (r::R)))):
  CallAll prog 44 [uV (some r.sl),.int .u64 (IntKind.u64.wrap n),xc (w:Nat)] h (λv ms=>∃r':Rw,BufOK r' (bs++be n w)/\v=uV (some r'.sl)/\ms=[(i,rvC (r'::R))]):=by
 have key:=qa8 (G:=tys) (h:=h) (vs:=[uV (some r.sl),.int .u64 (IntKind.u64.wrap n),.int .i64 (w:Nat)]) (λ_:Unit=>True) (λ_=>_) (α:=Rw) (λκ=>BufOK κ (bs++be n w)) (λκ=>uV (some κ.sl)) [⟨i,rvC (r::R),rvC (r::R),rvC (r::R)⟩] (λκ=>[rvC (κ::R)]) (λκ=>[]) [uV (some r.sl),.int .u64 (IntKind.u64.wrap n),.int .i64 (w:Nat)] tysOK mixed func44 Q8F (call44) ⟨hi,xb⟩ Q7e (λκ _=>Q7e) Q8K Q77 (λκ _=>trivial) ⟨.quo,.plain rfl,.plain rfl,xb⟩ Opens.same ?_
 .exact Q2G
 rintro⟨⟩ -
 have e0:IntKind.i64.wrap ((w:Int)-1)=(w:Int)-1:=jep _ Q8E Q8E
 have ek:(w:Int)-1-((0:Nat):Int)=IntKind.i64.wrap ((w:Int)-1):=by rw[e0];omega
 repeat' (refine Ba ?_;first|refine Q4Z ?_|fail)
 refine Ba ?_
 refine Bq (α:=Nat×Rw) (λq=>q.1<=w/\BufOK q.2 (bs++beK n w q.1)) (λq=>w-q.1) (λq=>[(0,uV (some q.2.sl)),(7,xc ((w:Int)-1-(q.1:Int)))]) (λq=>[(0,rvC (q.2::R))]) (0,r) [(0,0)] ⟨xn _,by show BufOK r (bs++[]);rw[zh];exact hr⟩ ?_ ?_
 .exact Q2b
 rintro⟨k,q⟩ ⟨hk,hq⟩
 have hk:k<=w:=hk
 have hq:BufOK q (bs++beK n w k):=hq
 have hql:(bs++beK n w k).length=bs.length+k:=by rw[yr,qst]
 by_cases hkw:k<w
 .have e8:IntKind.u64.wrap (IntKind.i64.wrap (8*((w:Int)-1-(k:Int))))=((8*(w-1-k):Nat):Int):=by rw[jep _ Q8E Q8E,xk];omega
  have ev:=q1h n (w-1-k) Q8E;rw[<-e8] at ev;have ek:(w:Int)-1-((k+1:Nat):Int)=IntKind.i64.wrap ((w:Int)-1-(k:Int)-1):=by rw[jep _ Q8E Q8E];omega
  refine Q2D ?_;refine jlz q R (bs++beK n w k) [_] 0 [_] hq rfl rfl (λρ=>qbs _ ρ) Q8F Q8e (by rw[hql];show _+1<=_;omega) λq' hq'=>?_
  rw[ev,List.append_assoc] at hq';refine Q2D ?_;refine Bk (α:=Nat×Rw) (k+1,q') [(0,0)] ⟨⟨hkw,hq'⟩,by show w-(k+1)<w-k;omega⟩ ?_;exact Q2b
 .obtain rfl:k=w:=by omega
  repeat' (refine Ba ?_;first|refine Q4Z ?_|refine Q5U ?_|refine Bn ?_|refine Bt q ⟨hq,?_⟩|refine Bc (.one .quo) ?_|refine Bc Q7j ?_|refine Q5c ?_|exact Be|fail)
theorem b0(n:Int):qi9 n 0=IntKind.u8.wrap n:=by unfold qi9;rw[wrap_u8];simp
theorem qwu(k s b q st ds t1 t2 wh wn x y a c d:Int)(hM:∀h,qae prog 12 [frF k s b q st ds t1 t2 wh wn x y a c d] h (.bool true) [] [])(W:World)(hW:0<W.heap.size):
  Calls prog 10 #[frF k s b q st ds t1 t2 wh wn x y a c d] W λe w'=>∃r:Rw,BufOK r (jjh k s b q st ds t1 t2 wh wn x y a c d)/\e=.returned (den (λ_=>(0,0)) (.tuple #[uV (some r.sl),xc 0]))/\Below W.heap.size W w'/\∀q∈[r],RwAt w' q/\W.heap.size<=q.b:=by
 letI:ZW:=⟨some W⟩
 refine q0j (vs:=[frF k s b q st ds t1 t2 wh wn x y a c d]) W rfl (fun(r:Rw)=>.tuple #[uV (some r.sl),xc 0]) (λr=>[r]) (λr=>BufOK r (jjh k s b q st ds t1 t2 wh wn x y a c d)) tysOK mixed func10 Q8F hW rfl (fun(κ:Rw) r r'=>by
  have e:∀r,den2 r (uV (some κ.sl))=uR (some κ.sl):=λr=>qor (some κ.sl) r
  have e2:∀r,den r (.tuple #[uV (some κ.sl),xc 0])=.tuple #[uR (some κ.sl),xc 0]:=λr=>by
   show Value.tuple (#[uV (some κ.sl),xc 0].map (den2 r))=_;simp only[yv,xq,yg,e];rfl
  rw[e2,e2]) ?_
 repeat' (refine Ba ?_;first|refine Q52 ?_|refine Q54 ?_|refine Bb (hM _) ?_|refine Q5d ?_|fail)
 refine Ba ?_
 refine Bv ?_
 obtain⟨ei,h1,h2,h3⟩:=q35
 refine qwl (ei:=ei) (z:=.int .u8 0) (out:=[.int .u8 97,.int .u8 108,.int .u8 105,.int .u8 49]) (R:=[]) (i:=0) rfl (by exact⟨_,_,rfl,⟨rfl,rfl⟩,_,_,rfl,⟨rfl,rfl⟩,_,_,rfl,⟨rfl,rfl⟩,_,_,rfl,⟨rfl,rfl⟩,rfl⟩) underlying37 h1 h3 rfl Q9W Q9L Q9L Q9W Q9W rfl Q9L Q8F λbb=>?_
 have hr0:BufOK ⟨true,5,ei.size,bb,0,4,4,[.int .u8 97,.int .u8 108,.int .u8 105,.int .u8 49]⟩ [97,108,105,49]:=⟨rfl,rfl,h2,rfl,rfl⟩
 generalize hg0:(⟨true,5,ei.size,bb,0,4,4,[.int .u8 97,.int .u8 108,.int .u8 105,.int .u8 49]⟩:Rw)=r0 at hr0
 have hg1:(some ⟨bb,0,4,4,none⟩:Option Sl)=some r0.sl:=by rw[<-hg0]
 rw[hg1]
 repeat' (refine Ba ?_;first|refine Q4Z ?_|refine Bm (q86 (i:=0) r0 rfl rfl underlying37 underlying5 hr0.w Q7d Q8F) ?_|fail)
 refine Ba ?_
 refine jlz r0 [] _ [_,_,_,_] 0 [_] hr0 rfl rfl (λρ=>qbs _ ρ) Q8F Q8e (by show 4+4<=_;omega) λr1 hr1=>?_
 rw[<-b0 k,<-b0 s,<-b0 ds,<-b0 wh] at hr1
 repeat' (refine Ba ?_;first|refine Q52 ?_|refine Q54 ?_|fail)
 refine Ba ?_
 refine Bv ?_
 refine Bu [0,1,2,3,5,6,7] [(4,[]),(8,[9])] Q8J ?_
 repeat' (refine Ba ?_;first|refine Q4Z ?_|fail)
 refine Ba ?_
 refine qou [0] _ Q97 (λh₂ hh=>qga r1 [] _ hr1 b 2 Q8I Q8O 0 h₂ Q7C) λv ms hM_=>?_
 obtain⟨r2,hr2,rfl,rfl⟩:=hM_
 refine⟨by simp,?_⟩
 repeat' (refine Ba ?_;first|refine Q4Z ?_|fail)
 refine Ba ?_
 refine qou [0] _ Q97 (λh₂ hh=>qga r2 [] _ hr2 q 2 Q8I Q8O 0 h₂ Q7C) λv ms hM_=>?_
 obtain⟨r3,hr3,rfl,rfl⟩:=hM_
 refine⟨by simp,?_⟩
 repeat' (refine Ba ?_;first|refine Q52 ?_|refine Q54 ?_|refine Bp 5 ?_|refine Q62 ?_|refine Q5m ?_|fail)
 refine Ba ?_
 refine Bh (qga r3 [] _ hr3 st 8 Q8I Q8O 0 _ Q8F) λv ms hR=>?_
 obtain⟨r4,hr4,rfl,rfl⟩:=hR
 repeat' (refine Ba ?_;first|refine Q52 ?_|refine Q54 ?_|refine Q5r ?_|refine Q5d ?_|refine Q5m ?_|fail)
 refine Ba ?_
 refine Bh (qga r4 [] _ hr4 t1 8 Q8I Q8O 0 _ Q8F) λv ms hR=>?_
 obtain⟨r5,hr5,rfl,rfl⟩:=hR
 repeat' (refine Ba ?_;first|refine Q52 ?_|refine Q54 ?_|refine Q5r ?_|refine Q5d ?_|refine Q5m ?_|fail)
 refine Ba ?_
 refine Bh (qga r5 [] _ hr5 t2 8 Q8I Q8O 0 _ Q8F) λv ms hR=>?_
 obtain⟨r6,hr6,rfl,rfl⟩:=hR
 repeat' (refine Ba ?_;first|refine Q52 ?_|refine Q54 ?_|refine Q5r ?_|refine Q5d ?_|refine Q5m ?_|fail)
 refine Ba ?_
 refine Bh (qga r6 [] _ hr6 wn 8 Q8I Q8O 0 _ Q8F) λv ms hR=>?_
 obtain⟨r7,hr7,rfl,rfl⟩:=hR
 repeat' (refine Ba ?_;first|refine Q52 ?_|refine Q54 ?_|refine Q5r ?_|refine Q5d ?_|refine Q5m ?_|fail)
 refine Ba ?_
 refine Bv ?_
 refine Bu [0,1,2,3,4,5,7,8,9,10,11] [(6,[]),(12,[13])] Q8J ?_
 repeat' (refine Ba ?_;first|refine Q4Z ?_|fail)
 refine Ba ?_
 refine qou [0] _ Q97 (λh₂ hh=>qga r7 [] _ hr7 x 4 Q8I Q8O 0 h₂ Q7C) λv ms hM_=>?_
 obtain⟨r8,hr8,rfl,rfl⟩:=hM_
 refine⟨by simp,?_⟩
 repeat' (refine Ba ?_;first|refine Q4Z ?_|fail)
 refine Ba ?_
 refine qou [0] _ Q97 (λh₂ hh=>qga r8 [] _ hr8 y 4 Q8I Q8O 0 h₂ Q7C) λv ms hM_=>?_
 obtain⟨r9,hr9,rfl,rfl⟩:=hM_
 refine⟨by simp,?_⟩
 repeat' (refine Ba ?_;first|refine Q52 ?_|refine Q54 ?_|refine Bp 5 ?_|refine Q62 ?_|refine Q5m ?_|fail)
 refine Ba ?_
 refine Bh (qga r9 [] _ hr9 a 8 Q8I Q8O 0 _ Q8F) λv ms hR=>?_
 obtain⟨r10,hr10,rfl,rfl⟩:=hR
 repeat' (refine Ba ?_;first|refine Q4Z ?_|refine Q5u ?_|refine Q5d ?_|refine Q5m ?_|fail)
 refine Ba ?_
 refine Bh (qga r10 [] _ hr10 c 8 Q8I Q8O 0 _ Q8F) λv ms hR=>?_
 obtain⟨r11,hr11,rfl,rfl⟩:=hR
 repeat' (refine Ba ?_;first|refine Q4Z ?_|refine Q5u ?_|refine Q5d ?_|refine Q5m ?_|fail)
 refine Ba ?_
 refine Bh (qga r11 [] _ hr11 d 8 Q8I Q8O 0 _ Q8F) λv ms hR=>?_
 obtain⟨r12,hr12,rfl,rfl⟩:=hR
 repeat' (refine Ba ?_;first|refine Q4Z ?_|refine Q5u ?_|refine Q5d ?_|refine Q5m ?_|fail)
 have hZ:∀z,IntKind.u64.wrap (sumN z)=IntKind.u64.wrap (IntKind.i64.wrap (sumN z)):=λz=>by rw[xk,xk,xw];omega
 repeat' (refine Ba ?_;first|refine Q4Z ?_|refine Bb (jeg r12 [r12] _ hr12 Q8O Q7d 0 _ Q8F) ?_|fail)
 refine Ba ?_
 rw[hZ]
 refine Bh (qga r12 [] _ hr12 (IntKind.i64.wrap (sumN _)) 4 Q8I Q8O 0 _ Q8F) λv ms hR=>?_
 obtain⟨r13,hr13,rfl,rfl⟩:=hR
 repeat' (refine Ba ?_;first|refine Q4Z ?_|refine Q5d ?_|refine Q5m ?_|fail)
 refine Ba ?_
 exact N.mk ⟨r13,hr13,rfl,rfl⟩
theorem jaj(W:World)(F:List By)(k s b q st ds t1 t2 wh wn x y a c d:Int)(hM:∀h,qae prog 12 [frF k s b q st ds t1 t2 wh wn x y a c d] h (.bool true) [] [])(i:Nat)(h:Hp)(hi:h[i]?=some (some (jew W F))):
  CallAll prog 10 [frF k s b q st ds t1 t2 wh wn x y a c d] h λv ms=>∃e:By,e.bs=jjh k s b q st ds t1 t2 wh wn x y a c d/\e.bs.length<=e.c/\e.b∉F.map By.b/\v=.tuple #[uV e.s,xc 0]/\ms=[(i,jew W (e::F))]:=λX ρ w xs H hxs=>by
 obtain rfl:=qg6 (vs:=[frF k s b q st ds t1 t2 wh wn x y a c d]) rfl hxs
 obtain⟨S,E⟩:=H.ext
 have M:MemOK W F (ρ i) (S i) w:=E.inv i _ hi
 refine .inr ⟨call10 _ w,(qwu k s b q st ds t1 t2 wh wn x y a c d hM w (by have:=H.lt _ _ hi;omega)).mono ?_⟩
 rintro e w' ⟨r,hr,rfl,hB,hA⟩
 obtain⟨hA,hge⟩:=hA r (yt.2 rfl)
 obtain⟨h0,hby⟩:=jee hr hA
 obtain⟨hno,H'⟩:=q30 (e:=⟨r.b,r.c,jjh k s b q st ds t1 t2 wh wn x y a c d⟩) H hi hB hby hge
 have e:∀r2,den2 r2 (uV (some r.sl))=uR (some r.sl):=λr2=>qor (some r.sl) r2
 have e2:∀r2,den r2 (.tuple #[uV (some r.sl),xc 0])=.tuple #[uR (some r.sl),xc 0]:=λr2=>by
  show Value.tuple (#[uV (some r.sl),xc 0].map (den2 r2))=_;simp only[yv,xq,yg,e];rfl
 refine⟨_,rfl,.tuple #[uV (some r.sl),xc 0],_,ρ,⟨⟨r.b,r.c,jjh k s b q st ds t1 t2 wh wn x y a c d⟩,rfl,by show(jjh k s b q st ds t1 t2 wh wn x y a c d).length<=r.c;rw[<-hr.n];exact hA.cap,hno,by rw[jef hr h0],rfl⟩,AgreeOn.refl _ _,H',λr2 _=>?_⟩
 rw[e2,e2]
theorem jak(W:World)(F:List By)(f:Frm)(hm:f.may)(i:Nat)(h:Hp)(hi:h[i]?=some (some (jew W F))):
  CallAll prog 10 [fmV f] h λv ms=>∃e:By,e.bs=encF f/\e.bs.length<=e.c/\v=.tuple #[uV e.s,xc 0]/\ms=[(i,jew W (e::F))]:=by
 refine qax (jaj W F f.k f.s f.b f.q f.st f.ds f.t1 f.t2 f.wh f.wn f.x f.y f.a f.c f.d (λh=>by have:=qvj f h;rw[xf hm] at this;exact this) i h hi) λv ms hR=>?_
 obtain⟨e,h1,h2,_,h3,h4⟩:=hR
 exact⟨e,h1,h2,h3,h4⟩
theorem q44{E:Ez}{cap:Nat}{hp:Hp}{n:Nat}(hh:hp[n]?=some (some (jko true E cap))):PostC ix hp n (jko true E cap):=⟨_,hh,id,nlr _,qa2⟩
def jpj(s:NSt)(i K:Nat)(v:Value)(ms:Mz):Prop:=
 (s.T.E=[]/\v=rpV s.fv s.fx s.fy s.fa s.fb s.fd (.slice none 0 0)/\ms=[(i,ndP s)])\/∃cap,0<s.T.E.length/\s.T.E.length<=cap/\v=rpV s.fv s.fx s.fy s.fa s.fb s.fd (.slice (some ⟨K,0,some 0⟩) s.T.E.length cap)/\ms=[(i,ndP s),(K,jko true s.T.E cap)]
theorem qho(s:NSt)(hE:s.T.E.length<=64)(i K:Nat)(h:Hp)(hi:h[i]?=some (some (ndP s)))(hK:h[K]?=some none):
  CallAll prog 15 [xd i] h (jpj s i K):=by
 have key:=qa8 (G:=tys) (h:=h) (vs:=[xd i]) (λ_:Rz=>True) (ndH s) (α:=Option Nat) (λκ=>match κ with|none=>s.T.E=[]|some cap=>0<s.T.E.length/\s.T.E.length<=cap) (λκ=>match κ with|none=>rpV s.fv s.fx s.fy s.fa s.fb s.fd (.slice none 0 0)|some cap=>rpV s.fv s.fx s.fy s.fa s.fb s.fd (.slice (some ⟨K,0,some 0⟩) s.T.E.length cap)) [⟨i,ndP s,ndP s,ndP s⟩] (λ_=>[ndP s]) (λκ=>match κ with|none=>[]|some cap=>[⟨K,6,jko true s.T.E cap⟩]) [xd 0] tysOK mixed func15 Q8F (call15) ⟨hi,xb⟩ ⟨Q74,xb⟩ (λκ _=>⟨Q74,xb⟩) Q8K Q77 (λκ hκ=>by
   cases κ with
   | none=>exact trivial
   | some cap=>exact⟨⟨hK,rfl,.inl Q9v,by simp⟩,xb⟩) ⟨.ptr rfl,xb⟩ qav ?_
 .exact Q2C
 intro g _
 repeat' (refine Ba ?_;first|refine Q52 ?_|refine Q54 ?_|fail)
 refine Ba ?_
 refine Bv ?_
 refine Ba ?_
 refine Bu [0,1,2,3,5,6,7,8,10,11,12,13] [(4,[]),(9,[]),(14,[15,16])] Q8J ?_
 repeat' (refine Ba ?_;first|refine Q4Z ?_|fail)
 refine Ba ?_
 refine Bz [1] _ Q8J (λh₂ hh=>qcr (quk s.fm s.fv s.fx s.fy s.fa s.fb s.fd 1 h₂ ((hh 1 Q8P).trans rfl))) λv ms hR=>?_
 obtain⟨rfl,rfl⟩:=hR
 refine⟨by simp,?_⟩
 repeat' (refine Ba ?_;first|refine Q4Z ?_|fail)
 refine Ba ?_
 refine Bz [1] _ Q8J (λh₂ hh=>qcr (jpz s.fm s.fv s.fx s.fy s.fa s.fb s.fd 1 h₂ ((hh 1 Q8P).trans rfl))) λv ms hR=>?_
 obtain⟨rfl,rfl⟩:=hR
 refine⟨by simp,?_⟩
 repeat' (refine Ba ?_;first|refine Q4Z ?_|fail)
 refine Ba ?_
 refine Bz [2,6] _ Q8J (λh₂ hh=>jnc s.T hE 2 6 h₂ Q7V ((hh 6 Q8P).trans rfl)) λv ms hR=>?_
 rcases hR with ⟨hE0,rfl,rfl⟩|⟨cap,h1,h2,rfl,rfl⟩
 .refine⟨by simp,?_⟩;repeat' (refine Ba ?_;first|refine Q4Z ?_|refine Q5M ?_|fail)
  refine Ba ?_;refine qe0 s g 0 1 2 3 4 [] qop (λi hi=>.inl Q8U) Q8F rfl rfl rfl Q88 Q8F rfl rfl re7 Q8F Q8F rfl rfl re2 Q8F rfl rfl re2 Q8F (λk hk=>by cases hk) (λk hk=>by cases hk) (qbt rfl) ?_;refine Bt none ⟨hE0,?_⟩;refine Bc (by show Re _ (rpV s.fv s.fx s.fy s.fa s.fb s.fd (.slice none 0 0)) _;exact .plain rfl) ?_;refine Bc Q7n ?_;refine Bc xb ?_;refine Bc Q7z ?_;exact Be
 .refine⟨by simp,?_⟩;repeat' (refine Ba ?_;first|refine Q4Z ?_|refine Q5M ?_|fail)
  refine Ba ?_;refine qe0 s g 0 1 2 3 4 [6] qop (λi hi=>.inl Q8U) Q8F rfl rfl rfl Q88 Q8F rfl rfl re7 Q8F Q8F rfl rfl re2 Q8F rfl rfl re2 Q8F (λk hk=>by simp at hk;omega) (λk hk d hd l hl=>?_) Q8B ?_
  .obtain rfl:k=6:=by simpa using hk
   obtain rfl:jko true s.T.E cap=d:=by simpa using hd
   exact qt2 hl
  refine Bt (some cap) ⟨⟨h1,h2⟩,?_⟩;refine Bc (by show Re _ (rpV s.fv s.fx s.fy s.fa s.fb s.fd (.slice (some ⟨K,0,some 0⟩) s.T.E.length cap)) _;exact .one (.agg ⟨.plain rfl,.plain rfl,.plain rfl,.plain rfl,.plain rfl,.plain rfl,.slice Q8F,xb⟩)) ?_;refine Bc Q7n ?_;refine Bc ⟨⟨x7 rfl,q44 Q8F⟩,xb⟩ ?_;refine Bc Q8a ?_;exact Be
open Go Go.RowKit Sx
theorem jeh(f:Frm):∀j,j<(encF f).length->0<=(encF f).getD j 0/\(encF f).getD j 0<256:=by
 have be:∀n w,∀c∈be n w,0<=c/\c<256:=λn w=>jl6 n w w
 have app:∀{a b:List Int},(∀c∈a,0<=c/\c<256)->(∀c∈b,0<=c/\c<256)->∀c∈a++b,0<=c/\c<256:=λha hb c hc=>(yJ.1 hc).elim (ha c) (hb c)
 have al:∀c∈encF f,0<=c/\c<256:=by
  unfold encF jjh jky;repeat' (first|with_reducible refine app ?_ ?_|with_reducible exact be _ _)
  decide
 intro j hj;rw[xT,xt hj];exact al _ (List.getElem_mem hj)
section
variable{P:Program}{o:Oper}{st:St}
end
variable{W:World}
theorem jal{B:List By}{e:By}(h:e.bs=bs):Src W (e::B) e.s bs:=by
 subst h;exact .own (zl ..)
theorem By.cap_ok{e:By}(h:e.bs.length<=e.c):∀s,e.s=some s->s.n<=s.c:=λs hs=>by
 obtain rfl:(⟨e.b,0,e.bs.length,e.c,none⟩:Sl)=s:=Option.some.inj hs;exact h
open Go Go.RowKit Sx
theorem N.endM3{v V:Value}{st:St}(F:List By)(h1:v=V)(h2:st.h[0]?=some (some (jew W F))):N (v=V/\∃F,st.h[0]?=some (some (jew W F))):=N.mk ⟨h1,F,h2⟩
theorem jei{C:Nat->Int}(hC:jkw C){id boot:Int}(hid:0<=id/\id<64)(hbo:0<=boot/\boot<=65535){v:Bool}{x y a b d:Int}(h1:v=true->mayP x y a b d/\a+d<=max 2 (C 10))(h0:v=false->x=0/\y=0/\a=0/\b=0/\d=0):NI (jhc C id boot v x y a b d):=by
 have c9:=hC.h9;have c8:=hC.h8;have c7:=hC.h7;have c2:=hC.h2;refine⟨c2,c7,hid,hbo,Int.le_refl _,⟨?_,?_⟩,⟨?_,?_⟩,⟨?_,?_⟩,⟨by show(0:Int)<=0;omega,by show(0:Int)<=1000000;omega⟩,⟨λhv=>?_,λhv=>?_⟩,⟨(q5i _).1,(q5i _).2,EAll.nil⟩,λm=>HI.o⟩
 .show 0<max 0 (min (C 9) 1000);omega
 .show max 0 (min (C 9) 1000)<=100;omega
 .show 0<=max 0 (min (C 9) 1000);omega
 .show max 0 (min (C 9) 1000)<=max 0 (min (C 9) 1000);omega
 .show 1<=max 1 (min (C 8) 1000000);omega
 .show max 1 (min (C 8) 1000000)<=1000;omega
 .obtain⟨g1,g2⟩:=h1 hv;refine⟨g1,?_⟩;show El.tr ⟨x,y,a,b,d⟩<=max 2 (C 10);rw[trf (show El.may ⟨x,y,a,b,d⟩ from g1)];exact g2
 .obtain⟨rfl,rfl,rfl,rfl,rfl⟩:=h0 hv;rfl
theorem OL.at'{s:NSt}{now fine:Int}:∀{L:List Ou}{q:Int}{j:Nat},OL s now fine q L->j<L.length->OI s (q+j) now fine (L.getD j Ou.o)
 | [],_,_,_,h=>absurd h (xX _)
 | x::L,q,0,⟨h,_⟩,_=>by rw[Int.ofNat_zero,Int.add_zero];exact h
 | x::L,q,j+1,⟨_,h⟩,hj=>by
  have:=OL.at' (j:=j) h Q8V;rw[show q+1+(j:Int)=q+((j+1:Nat):Int) by omega] at this;exact this
theorem OL.toList{s:NSt}{now fine q:Int}{o:Option Ou}(h:∀x,o=some x->OI s q now fine x):OL s now fine q o.toList:=by
 cases o with
 | none=>trivial
 | some x=>exact⟨h x rfl,xb⟩
structure jrv(s:NSt)(l now fine:Int)(s':NSt)(L:List Ou):Prop where
 ni:NI s'
 id:s'.id=s.id
 boot:s'.boot=s.boot
 C:s'.C=s.C
 bn:s'.bn=s.bn
 ol:OL s now fine s.seq L
 seq:s'.seq=s.seq+L.length
 bl:s'.bl+L.length=l
 le:L.length<=3
theorem jam(W:World)(F:List By)(f:Frm)(hf:¬ f.may)(j:Nat)(h:Hp)(hj:h[j]?=some (some (jew W F))):
  qae prog 10 [fmV f] h (.tuple #[uV none,xc 1]) [(j,jew W F)] []:=by
 refine qaq (G:=tys) (λ_:Unit=>True) (λ_=>_) [⟨j,jew W F,jew W F,jew W F⟩] [] [fmV f] tysOK mixed func10 Q8F (call10) ⟨hj,xb⟩ ⟨Q74,xb⟩ Q8K Q77 xb ⟨.plain rfl,xb⟩ Opens.same ?_
 rintro⟨⟩ -
 have hM:=qvj f
 rw[xe hf] at hM
 repeat' (refine Ba ?_;first|refine Q4Z ?_|refine Bb (hM _) ?_|refine Q5m ?_|fail)
 refine Ba ?_
 refine Bn ?_
 repeat' (refine Ba ?_;first|refine Q4Z ?_|refine Bc (.tuple ⟨.any (λ_ _=>rfl) λ_ _=>rfl,.plain rfl,xb⟩) ?_|refine Bc Q7n ?_|refine Q5c ?_|exact Be|fail)
theorem qa4(c:Cl):∀j,j<22->Re1 ix (Chunk.f (⟨true,22,[(0,22,c.v)]⟩:Chunk) j) (Chunk.f (⟨true,22,[(0,22,c.v)]⟩:Chunk) j):=λj hj=>by
 by_cases h:j<11
 .match j,h with
  | 0,_=>exact .plain rfl
  | 1,_=>exact .plain rfl
  | 2,_=>exact .plain rfl
  | 3,_=>exact .plain rfl
  | 4,_=>exact .plain rfl
  | 5,_=>exact .plain rfl
  | 6,_=>exact .plain rfl
  | 7,_=>exact .plain rfl
  | 8,_=>exact .plain rfl
  | 9,_=>exact .plain rfl
  | 10,_=>exact .plain rfl
 by_cases h2:j=21
 .subst h2;exact .quo
 .obtain⟨k,rfl⟩:∃k,j=k+11:=⟨j-11,by omega⟩
  match k,(by omega:k<10) with
  | 0,_=>exact .plain rfl
  | 1,_=>exact .plain rfl
  | 2,_=>exact .plain rfl
  | 3,_=>exact .plain rfl
  | 4,_=>exact .plain rfl
  | 5,_=>exact .plain rfl
  | 6,_=>exact .plain rfl
  | 7,_=>exact .plain rfl
  | 8,_=>exact .plain rfl
  | 9,_=>exact .plain rfl
structure SQ where
 i:Nat
 s:NSt
 F:List By
def stepU(n c:Int):Int:=IntKind.u64.wrap (((BitVec.ofInt IntKind.u64.bits (IntKind.u64.wrap (n*2^8))) ||| BitVec.ofInt IntKind.u64.bits c).toNat:Nat)
def takeU(l:List Int):Int:=l.foldl stepU 0
theorem qwv(bs:List Int)(k:Nat)(h:k<bs.length):takeU (bs.take (k+1))=stepU (takeU (bs.take k)) (bs.getD k 0):=by
 unfold takeU;exact Q3O
theorem q45(n c:Int)(hc:0<=c/\c<256):stepU n c=IntKind.u64.wrap (n*256+c):=by
 unfold stepU;rw[BitVec.toNat_or,ze,ze];have hA:(IntKind.u64.wrap (n*2^8)%((2^IntKind.u64.bits:Nat):Int)).toNat=2^8*(n%72057594037927936).toNat:=by
  show(IntKind.u64.wrap (n*256)%18446744073709551616).toNat=256*(n%72057594037927936).toNat;rw[xk];omega
 have hC:(c%((2^IntKind.u64.bits:Nat):Int)).toNat=c.toNat:=by
  show(c%18446744073709551616).toNat=c.toNat;omega
 rw[hA,hC,<-zz (i:=8) Q8E];rw[xk,xk];omega
theorem jan(n c:Int):IntKind.i64.wrap (IntKind.u64.wrap (n*256+c))=IntKind.i64.wrap (IntKind.i64.wrap n*256+c):=by
 rw[xw,xk,xw,xw];omega
theorem q1i(l:List Int)(h:∀c∈l,0<=c/\c<256):IntKind.i64.wrap (takeU l)=takeN l:=by
 have key:∀(l:List Int)(n:Int),(∀c∈l,0<=c/\c<256)->IntKind.i64.wrap (l.foldl stepU n)=l.foldl jg2 (IntKind.i64.wrap n):=λl=>by
  induction l with
  | nil=>intro n _;rfl
  | cons c l ih=>
   intro n hl;have hc:=hl c (zl ..);rw[List.foldl_cons,List.foldl_cons,ih _ λx hx=>hl x (yI _ hx),q45 _ _ hc,qox _ _ hc,jan]
 exact key l 0 h
theorem OldB.now{s:Sl}(h:OldB W s bs)(hb:∀b,b<W.heap.size->w.heap[b]?=W.heap[b]?):OldB w s bs:=⟨h.sp,h.n,h.c,h.u8,λj hj=>by
 have h1:=h.cell j hj;have h2:=qgv h1;unfold World.cell? at h1 ⊢;rw[hb _ h2];exact h1⟩
theorem jao[ZW](W:World)(hz:ZW.z=some W)(R:List Rw)(s:Sl)(bs:List Int)(hs:OldB W s bs)(a w:Nat)(hw:a+w<=bs.length)(hl:bs.length<=1000)(i:Nat)(h:Hp)(hi:h[i]?=some (some (rvC R))):
  qae prog 58 [uV (some s),xc (a:Nat),xc (w:Nat)] h (.int .u64 (takeU ((bs.drop a).take w))) [(i,rvC R)] []:=by
 have hO:=hs.dropw a Q8E
 obtain⟨sb,so,sn,sc,sp⟩:=s
 obtain⟨hsp,hn,hc,hu,hcl⟩:=hs
 simp only at hsp hn hc hcl
 subst hsp hn
 obtain⟨_,_,_,hu2,hcl2⟩:=hO
 refine qaq (G:=tys) (λ_:Unit=>True) (λ_=>_) [⟨i,rvC R,rvC R,rvC R⟩] [] [uV (some ⟨sb,so,bs.length,sc,none⟩),xc (a:Nat),xc (w:Nat)] tysOK mixed func58 Q8F (call58) ⟨hi,xb⟩ ⟨Q74,xb⟩ Q8K Q77 xb ⟨.quo,.plain rfl,.plain rfl,xb⟩ Opens.same ?_
 rintro⟨⟩ -
 have eaw:IntKind.i64.wrap ((a:Int)+(w:Int))=((a+w:Nat):Int):=by rw[jep _ Q8E Q8E];rfl
 repeat' (refine Ba ?_;first|refine Q4Z ?_|refine Bm (qbz (p:=a) (q:=a+w) (so+(if sc=a then 0 else a)) rfl rfl ⟨_,_,rfl,rfl⟩ ⟨_,_,rfl,rfl⟩ ⟨eaw,by omega⟩ ⟨rfl,by omega⟩ rfl) ?_|refine Q5P ?_|fail)
 refine Ba ?_
 refine Bq (α:=Nat) (λj=>j<=w) (λj=>w-j) (λj=>[(7,.int .u64 (takeU ((bs.drop a).take j))),(17,xc (j:Int))]) (λj=>[]) 0 [(0,0)] (xn _) ?_ ?_
 .exact Q21
 intro j hj
 have hj:j<=w:=hj
 by_cases hlt:j<w
 .have hjl:j<(bs.drop a).length:=by rw[List.length_drop];omega
  have st:=qwv (bs.drop a) j hjl;generalize takeU ((bs.drop a).take j)=n0 at st ⊢;have ek:((j+1:Nat):Int)=IntKind.i64.wrap ((j:Int)+1):=by rw[jep _ Q8E Q8E];rfl
  have eS:stepU n0 ((bs.drop a).getD j 0)=IntKind.u64.wrap (((BitVec.ofInt IntKind.u64.bits (IntKind.u64.wrap (n0*2^sh 8 IntKind.u64))) ||| BitVec.ofInt IntKind.u64.bits (IntKind.u64.wrap ((bs.drop a).getD j 0))).toNat:Nat):=by
   have eb:IntKind.u64.wrap ((bs.drop a).getD j 0)=(bs.drop a).getD j 0:=by have:=hu2 j hjl;rw[xk];omega
   rw[eb];rfl
  repeat' (refine Ba ?_;first|refine Q4Z ?_|refine Bg (xf (show((j:Nat):Int)<((a+w-a:Nat):Int) by omega)) ?_|refine Bm (qc6 (sz:=1) (g:=so+(if sc=a then 0 else a)+j) tysOK rfl rfl Q7R rfl Q8X Q8E (by show((j:Nat):Int)<((a+w-a:Nat):Int);omega) Q9C) ?_|refine Bm (qcn (i:=0) (R:=R) (v:=.int .u8 ((bs.drop a).getD j 0)) hz rfl rfl Q8F Q8X rfl (hcl2 j hjl)) ?_|fail)
  refine Ba ?_;refine Bk (α:=Nat) (j+1) [(0,0)] ⟨by show j+1<=w;omega,by show w-(j+1)<w-j;omega⟩ ?_;rw[st];exact Q21
 .obtain rfl:j=w:=by omega
  repeat' (refine Ba ?_;first|refine Q4Z ?_|refine Bf (xe (show ¬ ((j:Nat):Int)<((a+j-a:Nat):Int) by omega)) ?_|fail)
  refine Ba ?_;refine Bn ?_;repeat' (refine Ba ?_;first|refine Q4Z ?_|refine Q5x ?_|refine Bc Q7n ?_|refine Q5c ?_|exact Be|fail)
theorem jma[ZW]{P:Program}{g:FuncId}{vs:List Value}{V:Value}(W:World)(hz:ZW.z=some W)(hW:0<W.heap.size)(hr:∀w,(callFunc g ⟨xs⟩).run P w=.ok (.enter g ⟨xs⟩) w)(hV:qan V=true)(hx:∀(F:Nat->Prop) ρ,All2 (Den F ρ) vs xs)(hxs:∀(F:Nat->Prop) ρ ys,All2 (Den F ρ) vs ys->ys=xs)
  (hc:∀(z:ZW)(w:World),z.z=some w->(∀b,b<W.heap.size->w.heap[b]?=W.heap[b]?)->CallAll P g vs [some (rvC [])] λv ms=>v=V/\ms=[(0,rvC [])]) (R:List Rw) (i:Nat) (h:Hp) (hi:h[i]?=some (some (rvC R))):qae P g vs h V [] [i]:=λh₂ hrh hms X ρ w ys H hys=>by
 have hi2:h₂[i]?=some (some (rvC R)):=(hrh i Q7d).trans hi
 obtain⟨S,E⟩:=H.ext
 have M:RvOK R (ρ i) (S i) w:=E.inv i _ hi2
 obtain rfl:=hxs _ _ _ hys
 obtain⟨m1,m2,m3⟩:=M.base W hz
 have hb:∀b,b<W.heap.size->w.heap[b]?=W.heap[b]?:=λb hb=>(m3 b hb).2
 have hlt:0<w.heap.size:=by omega
 refine .inr ⟨hr w,(@ql1 ⟨some w⟩ P g vs _ V w rfl hlt hr hV hx (hc ⟨some w⟩ w rfl hb)).mono ?_⟩
 rintro e w' ⟨rfl,hB⟩
 exact⟨V,rfl,ρ,AgreeOn.refl _ _,H.frame hB,λr _=>qa0 hV r⟩
theorem q1j{s:Sl}(hs:OldB W s bs)(h:0<bs.length):0<W.heap.size:=by
 have:=qgv (hs.cell 0 h);omega
variable{F:Nat->Prop}{ρ:Rz}{ys:List Value}
theorem xs3{s:Sl}{a b:Int}(h:All2 (Den F ρ) [uV (some s),xc a,xc b] ys):ys=[uR (some s),xc a,xc b]:=by
 match ys,h with
 | [x,y,z],⟨h1,h2,h3,_⟩=>
  rw[<-h1.self,<-h2.self,<-h3.self,qbs];rfl
theorem xs1{s:Sl}(h:All2 (Den F ρ) [uV (some s)] ys):ys=[uR (some s)]:=by
 match ys,h with
 | [x],⟨h1,_⟩=>rw[<-h1.self,qbs]
theorem qco[ZW](W:World)(hz:ZW.z=some W)(R:List Rw)(s:Sl)(bs:List Int)(hs:OldB W s bs)(h0:0<bs.length)(a w:Nat)(hw:a+w<=bs.length)(hl:bs.length<=1000)(i:Nat)(h:Hp)(hi:h[i]?=some (some (rvC R))):
  qae prog 58 [uV (some s),xc (a:Nat),xc (w:Nat)] h (.int .u64 (takeU ((bs.drop a).take w))) [] [i]:=
 jma (vs:=[uV (some s),xc (a:Nat),xc (w:Nat)]) (xs:=[uR (some s),xc (a:Nat),xc (w:Nat)]) W hz (q1j hs h0) (λw=>call58 _ w) rfl (λF ρ=>⟨λr _=>qbs _ r,λ_ _=>rfl,λ_ _=>rfl,xb⟩) (λF ρ ys hy=>xs3 hy) (λz w' hz' hb=>qax (qcr (@jao z w' hz' [] s bs (hs.now hb) a w hw hl 0 _ rfl)) λv ms hR=>hR) R i h hi
theorem jap[ZW](W:World)(hz:ZW.z=some W)(R:List Rw)(s:Sl)(bs:List Int)(hs:OldB W s bs)(hl:bs.length<=1000)(i:Nat)(h:Hp)(hi:h[i]?=some (some (rvC R))):
  qae prog 45 [uV (some s)] h (.int .u32 (sumN bs)) [(i,rvC R)] []:=by
 obtain⟨sb,so,sn,sc,sp⟩:=s
 obtain⟨hsp,hn,hc,hu,hcl⟩:=hs
 simp only at hsp hn hc hcl
 subst hsp hn
 refine qaq (G:=tys) (λ_:Unit=>True) (λ_=>_) [⟨i,rvC R,rvC R,rvC R⟩] [] [uV (some ⟨sb,so,bs.length,sc,none⟩)] tysOK mixed func45 Q8F (call45) ⟨hi,xb⟩ Q7e Q8K Q77 xb ⟨.quo,xb⟩ Opens.same ?_
 rintro⟨⟩ -
 have hlb:((uN (some (⟨sb,so,bs.length,sc,none⟩:Sl)):Nat):Int)=((bs.length:Nat):Int):=rfl
 repeat' (refine Ba ?_;first|refine Q4Z ?_|refine Q5P ?_|fail)
 refine Ba ?_
 refine Bq (α:=Nat) (λk=>k<=bs.length) (λk=>bs.length-k) (λk=>[(3,.int .u32 (sumK bs k)),(8,xc (k:Int))]) (λk=>[]) 0 [(0,0)] (xn _) ?_ ?_
 .exact Q0v
 intro k hk
 have hk:k<=bs.length:=hk
 by_cases hkl:k<bs.length
 .have hc:bs[k]?=some (bs.getD k 0):=by rw[xT,xt hkl];rfl
  have hs:=qlw hc;generalize hcc:bs.getD k 0=c at hs;have hck:=hcl k hkl;rw[hcc] at hck;generalize sumK bs k=s0 at hs;obtain⟨x0,x1⟩:=qsu (IntKind.u8.wrap s0) c;have es:sumK bs (k+1)=jfp (jim (xor8 (IntKind.u8.wrap s0) c).toNat) (jgy s0 8):=hs.trans (qm9 _ _);have ex:IntKind.i64.wrap (xor8 (IntKind.u8.wrap s0) c)=(xor8 (IntKind.u8.wrap s0) c):=jep _ Q8E Q8E;have hent:∀h,qae prog 76 [xc (IntKind.i64.wrap (xor8 (IntKind.u8.wrap s0) c))] h (.int .u32 (jim (xor8 (IntKind.u8.wrap s0) c).toNat)) [] []:=λh=>by rw[ex];exact qvk _ ⟨x0,x1⟩ h
  have ek:((k+1:Nat):Int)=IntKind.i64.wrap ((k:Int)+1):=by rw[jep _ Q8E Q8E];rfl
  repeat' (refine Ba ?_;first|refine Q4Z ?_|refine Bb (hent _) ?_|refine Bm Q8m ?_|refine Bm (qcn (i:=0) (R:=R) (v:=.int .u8 c) hz rfl rfl Q8F Q8X rfl hck) ?_|refine Q5T ?_|fail)
  exact Q34
 .exact Q1u
theorem qs4[ZW](W:World)(hz:ZW.z=some W)(R:List Rw)(s:Sl)(bs:List Int)(hs:OldB W s bs)(h0:0<bs.length)(hl:bs.length<=1000)(i:Nat)(h:Hp)(hi:h[i]?=some (some (rvC R))):
  qae prog 45 [uV (some s)] h (.int .u32 (sumN bs)) [] [i]:=
 jma (vs:=[uV (some s)]) (xs:=[uR (some s)]) W hz (q1j hs h0) (λw=>call45 _ w) rfl (λF ρ=>⟨λr _=>qbs _ r,xb⟩) (λF ρ ys hy=>xs1 hy) (λz w' hz' hb=>qax (qcr (@jap z w' hz' [] s bs (hs.now hb) hl 0 _ rfl)) λv ms hR=>hR) R i h hi
def jmb(bs:List Int):Frm:=⟨IntKind.i64.wrap (bs.getD 4 0),IntKind.i64.wrap (bs.getD 5 0),IntKind.i64.wrap (takeU ((bs.drop 8).take 2)),IntKind.i64.wrap (takeU ((bs.drop 10).take 2)),IntKind.i64.wrap (takeU ((bs.drop 12).take 8)),IntKind.i64.wrap (bs.getD 6 0),IntKind.i64.wrap (takeU ((bs.drop 20).take 8)),IntKind.i64.wrap (takeU ((bs.drop 28).take 8)),IntKind.i64.wrap (bs.getD 7 0),IntKind.i64.wrap (takeU ((bs.drop 36).take 8)),IntKind.i64.wrap (IntKind.i32.wrap (takeU ((bs.drop 44).take 4))),IntKind.i64.wrap (IntKind.i32.wrap (takeU ((bs.drop 48).take 4))),IntKind.i64.wrap (takeU ((bs.drop 52).take 8)),IntKind.i64.wrap (takeU ((bs.drop 60).take 8)),IntKind.i64.wrap (takeU ((bs.drop 68).take 8))⟩
theorem jpk{k:Nat}(h:k<bs.length):(bs.drop k).take 1=[bs.getD k 0]:=by
 rw[xT,xt h,List.drop_eq_getElem_cons h,List.take_succ_cons,List.take_zero];rfl
theorem jrw(x:Int):IntKind.i32.wrap (IntKind.i64.wrap x)=IntKind.i32.wrap x:=by rw[wrap_i32,xw,wrap_i32];omega
theorem jaq(h80:bs.length=80)(hu:∀j,j<bs.length->0<=bs.getD j 0/\bs.getD j 0<256):jmb bs=jjj bs:=by
 have hm:∀c∈bs,0<=c/\c<256:=λc hc=>by
  obtain⟨j,hj,rfl⟩:=yF hc;have:=hu j hj;exact Q4E
 have hN:∀a w,IntKind.i64.wrap (takeU ((bs.drop a).take w))=takeN ((bs.drop a).take w):=λa w=>q1i _ λc hc=>hm c (List.mem_of_mem_drop (List.mem_of_mem_take hc))
 have hB:∀k,k<80->IntKind.i64.wrap (bs.getD k 0)=takeN ((bs.drop k).take 1):=λk hk=>by
  rw[jpk Q8E];show _=jg2 0 (bs.getD k 0);rw[qox _ _ (hu k Q8E),Int.zero_mul,Int.zero_add]
 have h32:∀a w,IntKind.i32.wrap (takeU ((bs.drop a).take w))=IntKind.i32.wrap (takeN ((bs.drop a).take w)):=λa w=>by rw[<-hN,jrw]
 unfold jmb jjj;simp only[hN,h32];rw[hB 4 Q8I,hB 5 Q8I,hB 6 Q8I,hB 7 Q8I]
theorem jar(l:List Int):0<=takeU l/\takeU l<18446744073709551616:=by
 have key:∀(l:List Int)(n:Int),(0<=n/\n<18446744073709551616)->0<=l.foldl stepU n/\l.foldl stepU n<18446744073709551616:=λl=>by
  induction l with
  | nil=>intro n hn;exact hn
  | cons c l ih=>
   intro n _;rw[List.foldl_cons];refine ih _ ?_;unfold stepU;rw[xk];omega
 exact key l 0 Q8I
theorem jas{l m:List Int}(h:IntKind.i64.wrap (takeU l)=takeN l):takeU l=IntKind.u64.wrap (sumN m)↔takeN l=IntKind.i64.wrap (sumN m):=by
 have:=jar l;rw[<-h,xw,xw,xk];omega
theorem jej[ZW](W:World)(hz:ZW.z=some W)(R:List Rw)(s:Sl)(bs:List Int)(hs:OldB W s bs)(i:Nat)(h:Hp)(hi:h[i]?=some (some (rvC R))):
  CallAll prog 16 [uV (some s)] h (λv ms=>v=decV (decF bs)/\ms=[(i,rvC R)]):=by
 obtain⟨sb,so,sn,sc,sp⟩:=s
 obtain rfl:sp=none:=hs.sp
 have hn:bs.length=sn:=hs.n
 have hc:sn<=sc:=hs.c
 have key:=qa8 (G:=tys) (h:=h) (vs:=[uV (some ⟨sb,so,sn,sc,none⟩)]) (λ_:Unit=>True) (λ_=>_) (α:=Unit) (λ_=>True) (λ_=>decV (decF bs)) [⟨i,rvC R,rvC R,rvC R⟩] (λ_=>[rvC R]) (λ_=>[]) [uV (some ⟨sb,so,sn,sc,none⟩)] tysOK mixed func16 Q8F (call16) ⟨hi,xb⟩ Q7e (λκ _=>Q7e) Q8K Q77 (λκ _=>trivial) ⟨.quo,xb⟩ Opens.same ?_
 .exact Q4B
 rintro⟨⟩ -
 by_cases h1:bs.length<80
 .rw[show decF bs=(Frm.o,4) from if_pos h1];exact Q0r
 by_cases h2:80<bs.length
 .exact Q4C
 have h80:sn=80:=by omega
 by_cases he:strOfNums (bs.take 4)=jo8
 rotate_left
 .exact Q0U
 have hm9:=jaq (by omega:bs.length=80) hs.u8
 have hmm:∀c∈bs,0<=c/\c<256:=λc hc=>by
  obtain⟨j,hj,rfl⟩:=yF hc;have:=hs.u8 j hj;exact Q4E
 have hN:=jas (m:=bs.take 76) (q1i ((bs.drop 76).take 4) λc hc=>hmm c (List.mem_of_mem_drop (List.mem_of_mem_take hc)))
 by_cases hsum:takeN ((bs.drop 76).take 4)=IntKind.i64.wrap (sumN (bs.take 76))
 rotate_left
 .rw[show decF bs=(Frm.o,6) by unfold decF;rw[if_neg h1,if_neg h2,if_neg (λh=>h he),if_pos hsum]];have hsum9:¬ takeU ((bs.drop 76).take 4)=IntKind.u64.wrap (sumN (bs.take 76)):=λe=>hsum (hN.1 e)
  repeat' (refine Ba ?_;first|refine Q4Z ?_|refine Q5n ?_|refine Q5V ?_|refine Bg (bne_iff_ne.2 hsum9) ?_|refine Q6t ?_|refine Q5x ?_|refine Bc Q7j ?_|refine Q5c ?_|exact Be|fail)
 have hsum9:=hN.2 hsum
 have hcl:=hs.cell
 by_cases hm:(jmb bs).may
 .rw[show decF bs=(jmb bs,0) by unfold decF;rw[if_neg h1,if_neg h2,if_neg (λh=>h he),if_neg (λh=>h hsum),<-hm9,if_pos hm]];exact Q0k
 .rw[show decF bs=(Frm.o,5) by unfold decF;rw[if_neg h1,if_neg h2,if_neg (λh=>h he),if_neg (λh=>h hsum),<-hm9,if_neg hm]];exact Q0k
theorem jat(u:Option Sl)(hu:uN u<80)(h:Hp):qae prog 16 [uV u] h (decV (Frm.o,4)) [] []:=by
 refine qak (G:=tys) [] [] [uV u] tysOK mixed func16 Q8F (call16) xb xb xb xb ⟨.quo,xb⟩ ?_;exact Q1P
theorem qaw(W:World)(F:List By)(u:Option Sl)(bs:List Int)(hs:Src W F u bs)(hu:∀j,j<bs.length->0<=bs.getD j 0/\bs.getD j 0<256)(hc:∀s,u=some s->s.n<=s.c)(i:Nat)(h:Hp)(hi:h[i]?=some (some (jew W F))):
  qae prog 16 [uV u] h (decV (decF bs)) [] [i]:=λh₂ hrh hms X ρ w xs H hx=>by
 obtain⟨S,E⟩:=H.ext
 have hi2:h₂[i]?=some (some (jew W F)):=(hrh i Q7d).trans hi
 have M:MemOK W F (ρ i) (S i) w:=E.inv i _ hi2
 have hb:=M.src hs
 by_cases h80:bs.length<80
 .rw[show decF bs=(Frm.o,4) from if_pos h80];exact jat u (by rw[<-hb.1];exact h80) h h₂ (λq hq=>by cases hq) hms X ρ w xs H hx
 cases u with
 | none=>exact absurd hb.1 (by show ¬ bs.length=0;omega)
 | some s=>
  have hn:bs.length=s.n:=hb.1;have hsp:s.sp=none:=by
   rcases(hb.2 s rfl).1 with h1|h1
   .exact h1
   .omega
  have hlt:0<w.heap.size:=by
   have:=qgv ((hb.2 s rfl).2 0 Q8E);omega
  letI:ZW:=⟨some w⟩
  have O:OldB w s bs:=⟨hsp,hn,hc s rfl,hu,(hb.2 s rfl).2⟩;obtain rfl:xs=[uR (some s)]:=Q3P;refine .inr ⟨call16 _ w,(ql1 w rfl hlt (λw=>call16 _ w) (V:=decV (decF bs)) rfl (vs:=[uV (some s)]) (xs:=[uR (some s)]) (λF ρ=>⟨λr _=>qbs _ r,xb⟩) (jej w rfl [] s bs O 0 _ rfl)).mono ?_⟩;exact Q45
open Go Go.RowKit Sx
theorem qs5(x y:Operand)(e:Ent):BinIs prog .neq 114 x y (entV e) (entV e) (.bool false):=⟨rfl,rfl,rfl,λw=>by go_simp⟩
theorem q6l(c1 c2 n:Nat)(T1 T2:Nat->Ent)(h1:n<=c1)(h2:n<=c2)(hn:n<=1000)(hT:∀i,i<n->T1 i=T2 i)(K1 K2:Nat)(hK:K1≠K2)(h:Hp)(hi1:h[K1]?=some (some (enC true c1 T1)))(hi2:h[K2]?=some (some (enC true c2 T2))):
  qae prog 17 [.slice (some ⟨K1,0,some 0⟩) n c1,.slice (some ⟨K2,0,some 0⟩) n c2] h (.bool true) [] [K1,K2]:=by
 refine qak (G:=tys) [⟨K1,enC true c1 T1,enC false c1 T1,noC⟩,⟨K2,enC true c2 T2,enC false c2 T2,noC⟩] [] [.slice (some ⟨0,0,some 0⟩) n c1,.slice (some ⟨1,0,some 0⟩) n c2] tysOK mixed func17 Q8F (call17) ⟨hi1,hi2,xb⟩ ⟨Q8l,Q8l,xb⟩ (by simp[Apart,hK]) xb Q7L ?_
 repeat' (refine Ba ?_;first|refine Q4Z ?_|refine Bf (bne_self_eq_false _) ?_|fail)
 refine Ba ?_
 have ek:((0:Nat):Int)=0:=rfl
 refine Bq (α:=Nat) (λk=>k<=n) (λk=>n-k) (λk=>[(13,xc (k:Nat))]) (λk=>[]) 0 [(0,0),(1,1)] (xn _) ?_ ?_
 .exact Q1Z
 clear ek
 intro k hk
 have hk:k<=n:=hk
 by_cases hkl:k<n
 .have ek:((k+1:Nat):Int)=IntKind.i64.wrap ((k:Int)+1):=by rw[jep _ Q8E Q8E];rfl
  have hTk:=hT k hkl;repeat' (refine Ba ?_;first|refine Q4Z ?_|refine Q5T ?_|refine Bj k 1 rfl hkl ?_|refine Bl _ (jj8 k rfl Q8E Q95) ?_|refine Br _ (by rw[hTk];exact qs5 _ _ _) ?_|fail)
  refine Ba ?_;refine Bk (α:=Nat) (k+1) [(0,0),(1,1)] ⟨hkl,by show n-(k+1)<n-k;omega⟩ ?_;exact Q1Z
 .obtain rfl:k=n:=by omega
  repeat' (refine Ba ?_;first|refine Q4Z ?_|refine Q5U ?_|refine Q5x ?_|refine Bc xb ?_|exact Be|fail)
end Go.Proofs.YtfkngpmgcimdbaaGreat
