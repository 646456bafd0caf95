/-
  The walks of the document's numbers: plus, minus, times at any length.
-/
import Derived.Test.YtfkngpmgcimdbaaGreatK11
set_option linter.unusedVariables false
set_option linter.unusedSimpArgs false
set_option maxRecDepth 100000
set_option maxHeartbeats 20000000
open Go.IntKind
theorem Go.Proofs.zk:type_of% @Int.natCast_add:=@Int.natCast_add
theorem Go.Proofs.yA:type_of% @Int.add_zero:=@Int.add_zero
open Go.Proofs.Tryz
namespace Go.Proofs
section
variable{Z Y:Prop}
theorem Q0a(h:Z:=by repeat' (refine Ba ?_;first|refine Q5P ?_|exact Be|refine Q7L ?_|refine Q6d ?_|refine Bc ⟨id,nlr _,jj0 (.plain rfl) (.plain rfl) (.plain rfl) (.plain rfl) (.plain rfl) (.plain rfl) (.plain rfl) (.plain rfl) (.plain rfl) (.plain rfl) (.plain rfl) (.plain rfl) (.plain rfl) (.plain rfl) (.plain rfl)⟩ ?_|refine Bc (.tuple ⟨.quo,.plain rfl,xb⟩) ?_|refine Bc (.tuple Q9p) ?_|refine Bc (.one c.re) ?_|refine Bc (.one .quo) ?_|refine Bc ⟨id,nlr _,qki c⟩ ?_|refine Bc (qat (qaq ek1) rfl) ?_|refine Bc (qat (qaq ek2) rfl) ?_|refine Bc (qat (qaq ek3) rfl) ?_|refine Bc Q9O ?_|refine Bc ⟨id,nlr _,qeh⟩ ?_|fail)):Z:=h
theorem Q0k(h:Z:=by
 refine Q4W ?_;repeat' (refine Ba ?_;first|refine Q5P ?_|refine Q7y ?_|refine Bb (ql9 _ _) ?_|refine Bb (qma _ _) ?_|refine Bu _ (qmb _ _ _ _ _ _ _ _ _ _ _ _ _ _ _ _ _ _ _ _ _ _ _ _ _ _ _) ?_|refine Q66 ?_|refine Q6c ?_|with_reducible refine Bj (λhb=>?_) (λhb=>?_)|fail)
 all_goals
  refine jf7 ?_
  simp only[yS,yJ,ym,yv,beq_eq_false_iff_ne,ne_eq,xh,xm,xG,false_iff,true_iff,iff_true,iff_false,reduceCtorEq,yj,xI,yk,xZ,true_and,and_true,false_and,and_false] at *
  try omega):Z:=h
theorem Q0l(h:Z:=by repeat' (refine Ba ?_;first|refine Q5P ?_|exact Be|refine Q7L ?_|refine Q6q ?_|refine Bc (.one (.ptr rfl)) ?_|refine Bc (qat (qaq ej) rfl) ?_|refine Bc (qat (qaq es) rfl) ?_|refine Bc (qat (qaq et) rfl) ?_|refine Bc Q9O ?_|fail)):Z:=h
theorem Q0q(h:Z:=by repeat' (refine Ba ?_;first|refine Q5P ?_|with_reducible refine Bb (qgz _) ?_|refine Q6u ?_|refine Bg (xg (by show _<=_;omega)) ?_|refine Q7e ?_|exact N.endM3 q.F rfl rfl|fail)):Z:=h
theorem Q0s(k:Y)(h:Wr Y->Z:=by
 intro kQ;repeat' (refine Ba ?_;first|refine Q5V ?_|refine Q5T ?_|refine Q5U ?_|fail)
 refine Ba ?_;exact kQ.o):Z:=h ⟨k⟩
theorem Q0y(h:Z:=by
 repeat' (refine Ba ?_;first|refine Q5V ?_|refine Q5R ?_|refine Bb (qdh _ _ _) ?_|refine Bb (qen _ _ Q9V _) ?_|refine Bg (xg Qai) ?_|refine Bf (xf Qai) ?_|fail)
 all_goals rfl):Z:=h
theorem Q0C(k:Y)(h:Wr Y->Z:=by
 intro kQ;repeat' (refine Ba ?_;first|refine Q5P ?_|refine Bi j 1 rfl hlt ?_|refine Bk _ (hrd _ rfl) ?_|refine Bf (bne_eq_false_iff_eq.2 x2) ?_|refine Bf (bne_eq_false_iff_eq.2 x3) ?_|refine Bf (bne_eq_false_iff_eq.2 x4) ?_|refine Bf (bne_eq_false_iff_eq.2 x5) ?_|refine Bf (bne_eq_false_iff_eq.2 x6) ?_|refine Bb (qnb x.f _) ?_|refine Bf (jq4 x1) ?_|refine Bg (xg (by show _<_;omega)) ?_|fail)
 refine Ba ?_;exact kQ.o):Z:=h ⟨k⟩
theorem Q1c(k:Y)(h:Wr Y->Z:=by
 intro kQ;repeat' (refine Ba ?_;first|refine Q5P ?_|refine Bp 1 ?_|refine Q7j ?_|fail)
 refine Ba ?_;exact kQ.o):Z:=h ⟨k⟩
theorem Q1d(h:Z:=by
 refine Q4W ?_;repeat' (refine Ba ?_;first|refine Q5P ?_|refine Q7y ?_|refine Bb (jlr _ _ _ _ _ _) ?_|refine Bu _ (qmb _ _ _ _ _ _ _ _ _ _ _ _ _ _ _ _ _ _ _ _ _ _ _ _ _ _ _) ?_|refine Bf (jq4 hm) ?_|refine Q66 ?_|refine Q6c ?_|with_reducible refine Bj (λhb=>?_) (λhb=>?_)|fail)
 all_goals
  refine jf7 ?_
  simp only[yS,yJ,ym,yv,beq_eq_false_iff_ne,ne_eq,xh,xm,xG,false_iff,true_iff,iff_true,iff_false,reduceCtorEq,yj,xI,yk,xZ,true_and,and_true,false_and,and_false] at *
  try omega):Z:=h
theorem Q1e(k:Y)(h:Wr Y->Z:=by
 intro kQ;repeat' (refine Ba ?_;first|refine Q5P ?_|refine Q7j ?_|fail)
 refine Ba ?_;exact kQ.o):Z:=h ⟨k⟩
theorem Q1m(h:Z:=by
 rw[e1];repeat' (refine Ba ?_;first|refine Q5V ?_|refine Q5R ?_|refine Bg (by rw[e2];rfl) ?_|refine Bf (by simpa using e2) ?_|refine Q6P ?_|refine Q6L ?_|fail)
 all_goals rfl):Z:=h
theorem Q1p(k:Y)(h:Wr Y->Z:=by
 intro kQ;repeat' (refine Ba ?_;first|refine Q5P ?_|refine Bf (kN hk) ?_|refine N.min2 ?_|refine Q6u ?_|refine Q7e ?_|refine Q7j ?_|fail)
 refine Ba ?_;exact kQ.o):Z:=h ⟨k⟩
theorem Q1r(k:Y)(h:Wr Y->Z:=by
 intro kQ;repeat' (refine Ba ?_;first|refine Q5P ?_|refine Bg (kY hk) ?_|refine Q6u ?_|refine Q7e ?_|refine Q7j ?_|fail)
 refine Ba ?_;exact kQ.o):Z:=h ⟨k⟩
theorem Q1H(h:Z:=by
 refine Q4W ?_;repeat' (refine Ba ?_;first|refine Q5P ?_|refine Q7y ?_|refine Bb (jlr _ _ _ _ _ _) ?_|refine Bg (jsd hm) ?_|refine Q66 ?_|refine Q6c ?_|with_reducible refine Bj (λhb=>?_) (λhb=>?_)|fail)
 all_goals rfl):Z:=h
theorem Q1R(h:Z:=by repeat' (refine Ba ?_;first|refine Q5P ?_|exact Be|refine Q7L ?_|refine Q6q ?_|refine Bc (.one (.ptr rfl)) ?_|refine Bc (qat (qaq hn4) rfl) ?_|refine Bc (qat (qaq e00) rfl) ?_|refine Bc Q9O ?_|fail)):Z:=h
theorem Q2a(k:Y)(h:Wr Y->Z:=by
 intro kQ;repeat' (refine Ba ?_;first|refine Q5V ?_|refine Q5R ?_|refine N.store _ (qcj rfl Q9R (by rw[ev0,w32,m1,hz];rfl)) ?_|refine Q78 ?_|refine Q7F ?_|refine Q64 ?_|refine Q60 ?_|fail)
 refine Ba ?_;exact kQ.o):Z:=h ⟨k⟩
theorem Q2p(k:Y)(h:Wr Y->Z:=by
 intro kQ;repeat' (refine Ba ?_;first|refine Q5V ?_|refine Q5R ?_|refine N.store _ (qcj rfl Q9R (by rw[ev,w32,m1])) ?_|refine Q78 ?_|refine Q7F ?_|refine Q64 ?_|fail)
 refine Ba ?_;exact kQ.o):Z:=h ⟨k⟩
theorem Q2q(h:Z:=by repeat' (refine Ba ?_;first|refine Q5P ?_|exact Be|refine Q6q ?_|refine Bc (qat (qaq ek) rfl) ?_|refine Bc qfp ?_|refine Bc (.one .quo) ?_|fail)):Z:=h
theorem Q2r(h:Z:=by have:=hst.seq;have:=hst.le;show s'.seq<=3*((q.i+1:Nat):Int);omega):Z:=h
theorem Q2t(h:Z:=by repeat' (refine Ba ?_;first|refine Q5P ?_|with_reducible refine Bb (qgz _) ?_|refine Q7j ?_|exact N.endM3 q.F rfl rfl|fail)):Z:=h
theorem Q2G(k:Y)(h:Wr Y->Z:=by
 intro kQ;repeat' (refine Ba ?_;first|refine Q5P ?_|refine Q6P ?_|refine Bc (by rw[e8];omega) ?_|fail)
 refine Ba ?_;exact kQ.o):Z:=h ⟨k⟩
theorem Q2N(h:Z:=by repeat (refine Ba ?_;first|exact Be|refine Q5W ?_|refine Q67 ?_|refine Q7o ?_|refine Bc (jf2 (by rw[ev0,jlp,m2,hz];rfl)) ?_|fail_if_success skip)):Z:=h
theorem Q2O(h:Z:=by
 have h:=jpl (o:=true) (c:=κ) (T:=λi=>L.getD i Ou.o) j rfl Q9R hp;rw[hxe] at h;exact h):Z:=h
theorem Q2P(h:Z:=by repeat (refine Ba ?_;first|exact Be|refine Q5W ?_|refine Q67 ?_|refine Bc (by rw[qc5,yr];exact qje) ?_|refine Bc (jf2 (by rw[qc5,yr,yr];rfl)) ?_|fail_if_success skip)):Z:=h
theorem Q2Q(h:Z:=by repeat (refine Ba ?_;first|exact Be|refine Q5W ?_|refine Q67 ?_|refine Q7o ?_|refine Bc (jf2 (by rw[ev,jlp,m2])) ?_|fail_if_success skip)):Z:=h
theorem Q38(h:Z:=by
 refine Bm (α:=SQ) ⟨q.i+1,s',q.F⟩ [(0,0),(1,1),(6,6),(7,7),(11,11)] ⟨⟨hi,by show q.i+1<=60;omega,hst.ni,hst.id.trans q4,hst.boot.trans q5,?_,hst.C.trans q7,hst.bn.trans q8⟩,by show n0-(q.i+1)<n0-q.i;omega⟩ ?_
 .exact Q2r
 exact Q0l):Z:=h
theorem Q39(h:Z:=by
 refine Bm (α:=SQ) ⟨q.i+1,s',F'⟩ [(0,0),(1,1),(6,6),(7,7),(11,11)] ⟨⟨hi,by show q.i+1<=60;omega,hst.ni,hst.id.trans q4,hst.boot.trans q5,?_,hst.C.trans q7,hst.bn.trans q8⟩,by show n0-(q.i+1)<n0-q.i;omega⟩ ?_
 .exact Q2r
 exact Q0l):Z:=h
theorem Q3a(h:Z:=by
 refine Bm (α:=SQ) ⟨q.i+1,s',q.F⟩ [(0,0),(1,1),(6,6),(7,7)] ⟨⟨hi,by show q.i+1<=60;omega,hst.ni,hst.id.trans q4,hst.boot.trans q5,?_,hst.C.trans q7,hst.bn.trans q8⟩,by show n0-(q.i+1)<n0-q.i;omega⟩ ?_
 .exact Q2r
 exact Q0l):Z:=h
theorem Q3b(h:Z:=by
 refine Bm (α:=SQ) ⟨q.i+1,s',F'⟩ [(0,0),(1,1),(6,6),(7,7)] ⟨⟨hi,by show q.i+1<=60;omega,hst.ni,hst.id.trans q4,hst.boot.trans q5,?_,hst.C.trans q7,hst.bn.trans q8⟩,by show n0-(q.i+1)<n0-q.i;omega⟩ ?_
 .exact Q2r
 exact Q0l):Z:=h
theorem Q3d(h:Z:=by
 rw[decide_eq_decide] at hs;rw[Bool.eq_iff_iff,xo,decide_eq_true_iff,decide_eq_true_iff,decide_eq_true_iff];omega):Z:=h
theorem Q3p(k:Y)(h:Wr Y->Z:=by
 intro kQ;refine Ba ?_;refine Q5g ?_;refine Bt [0,1,2,3,4,5] [(6,[7,8])] Q9W ?_;refine Q0s ?_;exact kQ.o):Z:=h ⟨k⟩
theorem Q3Z(h:Z:=by
 rw[xC ha,xC hb,hcm];unfold lm;rw[xC ((xV (qdg _)).2 (by rw[xk,<-qdm];exact hs))]):Z:=h
theorem Q47(k:Y)(h:Wr Y->Z:=by
 intro kQ;refine Ba ?_;refine N.next (i+1) ⟨by show i+1<=nl a;omega,by show nl a-(i+1)<nl a-i;omega⟩ ?_;exact kQ.o):Z:=h ⟨k⟩
theorem Q4R(h:Z:=by
 show((jhq es++[none]).set es.length _)[es.length]?=_;rw[xw (by simp[jhq])]):Z:=h
theorem Q4W(k:Y)(h:Wr Y->Z:=by
 intro kQ;refine qac (G:=tys) w tysOK mixed func12 Q9S Q9S Q9S ?_;exact kQ.o):Z:=h ⟨k⟩
theorem Q5H(h:Z:=by
 rw[e,zH _ _ hD,xM Q9R];omega):Z:=h
theorem Q5T(k:Y)(h:Wr Y->Z:=by intro kQ;(first|with_reducible (first|refine N.eq ?_|refine Bc rfl ?_|refine Bc ⟨by kernel_rfl,by kernel_rfl⟩ ?_)|fail);exact kQ.o):Z:=h ⟨k⟩
theorem Q6u(k:Y)(h:Wr Y->Z:=by intro kQ;(first|refine Br (qec (sz:=22) (g:=o0+q.i*22) tysOK rfl rfl (λ_=>rfl) rfl QaA Q9R Q9R (by simp;first|done|fail)) ?_|refine Br (qd9 (i:=0) (F:=q.F) (ds:=c.rs) (cs:=c.cs) rfl rfl rfl (by exact⟨rfl,rfl⟩) c.den rfl hc) ?_|refine Br (qcw rfl rfl ⟨_,rfl,_,underlying37⟩) ?_|fail);exact kQ.o):Z:=h ⟨k⟩
theorem Q77(k:Y)(h:Wr Y->Z:=by intro kQ;(first|refine Bc (ji6 Q9S rfl) ?_|refine Bc ⟨⟨by show 2<=6;decide,qhs Q9S rfl Qau⟩,xb⟩ ?_|fail);exact kQ.o):Z:=h ⟨k⟩
theorem Q7c(k:Y)(h:Wr Y->Z:=by intro kQ;(first|refine Bi i 1 Qaw Q9R ?_|fail);exact kQ.o):Z:=h ⟨k⟩
theorem Q7e(k:Y)(h:Wr Y->Z:=by intro kQ;(first|refine Bf (xf (by show ¬ _<=_;omega)) ?_|refine Bg (xg (by show _<_;omega)) ?_|fail);exact kQ.o):Z:=h ⟨k⟩
theorem Q7g(k:Y)(h:Wr Y->Z:=by intro kQ;(first|refine Bp 1 ?_|refine Bf (by rw[ha0];rfl) ?_|refine Bb (jil 0 0 0 _ _ _ Q9S q6y (nlr _) Q9R (by rw[qc5];decide)) ?_|refine Bl ?_|refine Bc (ji6 Q9S (by rw[qed])) ?_|fail);exact kQ.o):Z:=h ⟨k⟩
theorem Q7i(k:Y)(h:Wr Y->Z:=by intro kQ;(first|refine Bb (qjt 7 5 9 2 ev rt _) ?_|refine Bb (jlr _ _ _ _ _ _) ?_|fail);exact kQ.o):Z:=h ⟨k⟩
theorem Q7j(k:Y)(h:Wr Y->Z:=by intro kQ;(first|refine Bf (xf (by show ¬ _<_;omega)) ?_|fail);exact kQ.o):Z:=h ⟨k⟩
theorem Q7r(k:Y)(h:Wr Y->Z:=by intro kQ;(first|refine Bc (jf2 Qax) ?_|fail);exact kQ.o):Z:=h ⟨k⟩
theorem Q7t(k:Y)(h:Wr Y->Z:=by intro kQ;(first|refine Bb (qvr _ κ 5 Q9S (yw.2 rfl)) ?_|fail);exact kQ.o):Z:=h ⟨k⟩
theorem Q7u(k:Y)(h:Wr Y->Z:=by intro kQ;(first|refine Bb (qdh _ _ _) ?_|refine Bb (qen _ _ Q9V _) ?_|refine Bb (q62 (a*d-b*b) _ _ _ _ hκ _) ?_|refine Bg (xg Qai) ?_|fail);exact kQ.o):Z:=h ⟨k⟩
theorem Q7y(k:Y)(h:Wr Y->Z:=by intro kQ;(first|refine Bb (jp7 _ _) ?_|refine Bb (qjg _ _) ?_|refine Bb (qjf _ _) ?_|fail);exact kQ.o):Z:=h ⟨k⟩
theorem Q7F(k:Y)(h:Wr Y->Z:=by intro kQ;(first|refine Bk _ (qb1 (p:=i) Q9R Q9R) ?_|fail);exact kQ.o):Z:=h ⟨k⟩
theorem Q7L(k:Y)(h:Wr Y->Z:=by intro kQ;(first|refine Bc (@ChunkReLe.mk _ _ _ ⟨.inr rfl⟩ id (nlr _) (nzj)) ?_|fail);exact kQ.o):Z:=h ⟨k⟩
theorem Q7O(k:Y)(h:Wr Y->Z:=by intro kQ;(first|refine Bc ⟨⟨.inl rfl,.inl rfl,xb⟩,⟨.inr ⟨_,by rfl,rfl⟩,xb⟩⟩ ?_|refine Bc xb ?_|fail);exact kQ.o):Z:=h ⟨k⟩
theorem Q8m(h:Z:=by first|exact .ch ((hh 1 Qa2).trans rfl) (jfn _ _ _) h2.len h2.cap|fail):Z:=h
theorem Q8v(h:Z:=by first|exact .ch ((hh 0 Qa2).trans rfl) (jfn _ _ _) h1.len h1.cap|fail):Z:=h
theorem Q95(h:Z:=by first|exact ⟨.sl rfl,.sl rfl,xb⟩|fail):Z:=h
theorem Q9d(h:Z:=by first|exact jp9 W q.F ⟨c.k,c.s,c.b,c.q,(q.i:Int),c.ds,c.t1,c.t2,c.wh,min c.wn (q.i:Int),c.x,c.y,c.a,c.c,c.d⟩ 0 _ Q9S|fail):Z:=h
theorem Q9O(h:Z:=by first|exact ChunkReLe.same (qaz Q9S Q9S)|fail):Z:=h
theorem Qa1(h:Z:=by simp only[xv,qfw,xS,yh];omega):Z:=h
theorem Qau(h:Z:=by rw[he];exact jfn _ _ _):Z:=h
theorem Qaw(h:Z:=by first|rfl|exact jgd _ Q9R Q9R|(rw[jgd _ Q9R Q9R];omega)):Z:=h
theorem Qax(h:Z:=by rw[jgd _ Q9R Q9R];rfl):Z:=h
end
end Go.Proofs

namespace Go.Proofs.YtfkngpmgcimdbaaGreat
open Go Go.RowKit Sx
theorem q1o(p q k j:Nat):lm (p%bw k+q / bw k*bw k) j=if j<k then lm p j else lm q j:=by
 by_cases h:j<k
 .rw[if_pos h,jej _ h,qkg h]
 .rw[if_neg h];have h1:lm (p%bw k+q / bw k*bw k) j=lm (q / bw k*bw k) j:=by
   unfold lm;obtain⟨d,rfl⟩:∃d,j=k+d:=⟨j-k,by omega⟩;rw[qkf,<-ya,<-ya,zH _ _ (qdg k),xM (xr _ (qdg k)),xq,zL _ (qdg k)]
  rw[h1,jao,if_pos Q9R]
theorem qwy{m p p' q k r:Nat}{x:Int}(e:r=k)(h:k<m)(hx:x=((lm p' k:Nat):Int))(hp:p'%bw k=p%bw k):Writes (jfj true m (p%bw k+q / bw k*bw k)) r 1 (.int .u32 x) (jfj true m (p'%bw (k+1)+q / bw (k+1)*bw (k+1))):=by
 subst e hx;refine⟨rfl,by show r+1<=m;omega,rfl,λj hj=>?_⟩;have hj:j<m:=hj;rw[qa6 hj,qa6 hj,q1o,q1o];rcases Nat.lt_trichotomy j r with h1|h1|h1
 .rw[if_neg (show ¬ (r<=j/\j<r+1) by omega),if_pos (show j<r+1 by omega),if_pos h1,<-qkg h1,hp,qkg h1]
 .subst h1;rw[if_pos (show j<=j/\j<j+1 by omega),if_pos (show j<j+1 by omega),Nat.sub_self];rfl
 .rw[if_neg (show ¬ (r<=j/\j<r+1) by omega),if_neg (show ¬ j<r+1 by omega),if_neg (show ¬ j<r by omega)]
theorem jap(a b:Nat):a*b<bw (nl a+nl b)\/a*b=0:=by
 rcases xU (a*b) with h|h
 .exact .inr h
 .left;rw[qkf];have ha:=qby a;have hb:=qby b;have hb0:0<b:=Nat.pos_of_ne_zero λe=>by rw[e,Nat.mul_zero] at h;omega
  exact xl (y4 ha hb0) (yZ _ (Nat.le_of_lt hb))
theorem qo4(a b:Nat):a*b<bw (nl a+nl b):=by
 rcases jap a b with h|h
 .exact h
 .rw[h];exact qdg _
theorem q5a(S x b i j C:Nat)(hx:x<4294967296)(hC:C<4294967296)(h:(S+x*(b%bw j)*bw i) / bw (i+j)=C+S / bw (i+j)):
  lm (S+x*(b%bw (j+1))*bw i) (i+j)=(C+(x*lm b j+lm S (i+j)))%4294967296/\
  (S+x*(b%bw (j+1))*bw i) / bw (i+j+1)=(C+(x*lm b j+lm S (i+j))) / 4294967296+S / bw (i+j+1)/\
  C+(x*lm b j+lm S (i+j))<18446744073709551616/\(C+(x*lm b j+lm S (i+j))) / 4294967296<4294967296/\
  (S+x*(b%bw (j+1))*bw i)%bw (i+j)=(S+x*(b%bw j)*bw i)%bw (i+j):=by
 have hb:=jfz b j
 have hS:=jfz S (i+j)
 have hxy:x*lm b j<=4294967295*4294967295:=yz Q9R Q9R
 have hV:S+x*(b%bw (j+1))*bw i=(S+x*(b%bw j)*bw i)+x*lm b j*bw (i+j):=by
  rw[qhr,yy,xy,qkf,xk (bw i) (bw j),<-xR,<-xR,ye]
 have hd:(S+x*(b%bw (j+1))*bw i) / bw (i+j)=(C+(x*lm b j+lm S (i+j)))+S / bw (i+j+1)*4294967296:=by
  rw[hV,zH _ _ (qdg _),h,qo2 S (i+j)];omega
 refine⟨?_,?_,by omega,by omega,?_⟩
 .show(S+x*(b%bw (j+1))*bw i) / bw (i+j)%4294967296=_;rw[hd,zJ]
 .rw[qdm (i+j),<-ya,hd,zH _ _ Q9V,<-qdm]
 .rw[hV,zJ]
def brw(a b i:Nat):Int:=if a%bw i<b%bw i then -1 else 0
theorem q5b(a b i:Nat)(h:b<=a):((brw a b i+(lm a i:Nat))-(lm b i:Nat))%4294967296=(lm (a-b) i:Nat)/\((brw a b i+(lm a i:Nat))-(lm b i:Nat)).fdiv 4294967296=brw a b (i+1)/\-1<=brw a b i/\brw a b i<=0:=by
 have hD:=qdg i;have ha:=xz a (bw i);have hb:=xz b (bw i);have hA:=xr a hD;have hB:=xr b hD;have hqq:∀{x y:Nat},x<y->bw i*x+bw i<=bw i*y:=λ{x y} hxy=>by
  have:=yZ (bw i) (show x+1<=y by omega);rwa[yy,x9] at this
 have key:(((a-b) / bw i:Nat):Int)=brw a b i+((a / bw i:Nat):Int)-((b / bw i:Nat):Int):=by
  unfold brw;generalize a / bw i=qa at *;generalize b / bw i=qb at *;generalize a%bw i=A at *;generalize b%bw i=B at *;by_cases hlt:A<B
  .rw[if_pos hlt];have hq:qb<qa:=by
    refine Nat.lt_of_not_le λhle=>?_
    have:bw i*qa<=bw i*qb:=yZ _ hle;omega
   have e:a-b=(bw i+A-B)+(qa-qb-1)*bw i:=by
    obtain⟨d,rfl⟩:∃d,qa=qb+1+d:=⟨qa-(qb+1),by omega⟩;rw[show qb+1+d-qb-1=d by omega,xk d];rw[yy,yy,x9] at ha;omega
   exact Q5H
  .rw[if_neg hlt];have hq:qb<=qa:=by
    refine Nat.le_of_not_lt λhle=>?_
    have:=hqq hle;omega
   have e:a-b=(A-B)+(qa-qb)*bw i:=by
    obtain⟨d,rfl⟩:∃d,qa=qb+d:=⟨qa-qb,by omega⟩;rw[show qb+d-qb=d by omega,xk d];rw[yy] at ha;omega
   exact Q5H
 have hb1 : -1<=brw a b i/\brw a b i<=0:=by unfold brw;split<;>omega
 have hx:=jfz a i;have hy:=jfz b i;refine⟨?_,?_,hb1.1,hb1.2⟩
 .unfold lm at hx hy ⊢;omega
 .have h1:brw a b (i+1)=if a%bw i+lm a i*bw i<b%bw i+lm b i*bw i then -1 else 0:=by
   unfold brw;rw[qhr,qhr]
  rw[h1];unfold brw at hb1 ⊢;generalize a%bw i=A at *;generalize b%bw i=B at *;generalize lm a i=x at *;generalize lm b i=y at *;have hf:∀z:Int,z.fdiv 4294967296=z / 4294967296:=λz=>zF _ Q9V
  rw[hf];rcases Nat.lt_trichotomy x y with hxy|hxy|hxy
  .have:=hqq hxy;rw[if_pos (show A+x*bw i<B+y*bw i by rw[xk x,xk y];omega)];split<;>omega
  .subst hxy;by_cases hlt:A<B
   .rw[if_pos hlt,if_pos Q9R];omega
   .rw[if_neg hlt,if_neg Q9R];omega
  .have:=hqq hxy;rw[if_neg (show ¬ A+x*bw i<B+y*bw i by rw[xk x,xk y];omega)];split<;>omega
theorem jaq(a b m q i j K:Nat)(o o2:Chunk)(h:Hp)(hi:h[i]?=some (some o))(hin:jfk o m a)(hj:h[j]?=some (some o2))(hjn:jfk o2 q b)(hl:nl a<=m)(hm:m<=31)(hl2:nl b<=q)(hq:q<=31)(hp:0<nl a+nl b)(h0:h[K]?=some none):
  qae prog 135 [.slice (some ⟨i,0,some 0⟩) (nl a) m,.slice (some ⟨j,0,some 0⟩) (nl b) q] h (.slice (some ⟨K,0,some 0⟩) (nl (a*b)) (nl a+nl b)) [(K,jfj true (nl a+nl b) (a*b))] [i,j]:=by
 have hab:=qo4 a b
 refine qak (G:=tys) [⟨i,_,jfj false m a,⟨false,0,[]⟩⟩,⟨j,_,jfj false q b,⟨false,0,[]⟩⟩] [⟨K,10,jfj true (nl a+nl b) (a*b)⟩] [.slice (some ⟨0,0,some 0⟩) (nl a) m,.slice (some ⟨1,0,some 0⟩) (nl b) q] tysOK mixed func135 Q9S (call135) ⟨hi,hj,xb⟩ Q86 Q9X ⟨⟨h0,rfl,by show 0<nl a+nl b;exact hp,by simp⟩,xb⟩ Q8H ?_
 repeat' (refine Ba ?_;first|refine Q5V ?_|refine Q5R ?_|refine MakeN.mk1 (nl a+nl b) (nl a+nl b) Qax Qax (by show 4*(nl a+nl b)<=_;omega) Q9R (x9 _).symm ?_|fail)
 refine Ba ?_
 refine Bo (α:=Nat) (λi=>i<=nl a) (λi=>nl a-i) (λi=>[(19,xc (i:Int))]) (λi=>[(10,jfj true (nl a+nl b) (a%bw i*b))]) 0 (xi _) ?_ ?_
 .repeat (refine Ba ?_;first|exact Be|refine Q5W ?_|refine Q67 ?_|refine Bc (by rw[qc5,yr,yG];exact qje) ?_|fail_if_success skip)
 .intro i hi';have hi':i<=nl a:=hi';rcases xP i (nl a) with hlt|hge
  .have hx:=jfz a i;have hSlt:a%bw i*b<bw (i+nl b):=by
    rw[qkf];rcases xU b with e|e
    .subst e;rw[Nat.mul_zero];exact zy (qdg _) (qdg _)
    .exact xl (y4 (xr _ (qdg i)) e) (yZ _ (Nat.le_of_lt (qby b)))
   have hV:a%bw (i+1)*b=a%bw i*b+lm a i*(b%bw (nl b))*bw i:=by
    rw[qhr,xy,xC (qby b),zu]
   have hVlt:a%bw (i+1)*b<bw (i+nl b+1):=by
    have hbb:=qkf (i+1) (nl b);rw[show i+nl b+1=(i+1)+nl b by omega,hbb];rcases xU b with e|e
    .rw[e,Nat.mul_zero];exact zy (qdg _) (qdg _)
    .exact xl (y4 (xr _ (qdg _)) e) (yZ _ (Nat.le_of_lt (qby b)))
   generalize hS:a%bw i*b=S at *;generalize hX:lm a i=x at *;repeat' (refine Ba ?_;first|refine Q5V ?_|refine Q5R ?_|refine Q7c ?_|refine Bk (.int .u32 ((x:Nat):Int)) (by rw[<-hX];exact qb1 (p:=i) Q9R Q9R) ?_|refine Q64 ?_|fail)
   refine Ba ?_;refine Bo (α:=Nat×Nat) (λs=>s.1<=nl b/\s.2<4294967296/\(S+x*(b%bw s.1)*bw i) / bw (i+s.1)=s.2+S / bw (i+s.1)) (λs=>nl b-s.1) (λs=>[(26,xc (s.1:Int)),(8,.int .u64 (s.2:Int))]) (λs=>[(10,jfj true (nl a+nl b) ((S+x*(b%bw s.1)*bw i)%bw (i+s.1)+S / bw (i+s.1)*bw (i+s.1)))]) (0,0) ⟨xi _,by decide,by rw[qc5,yr,Nat.mul_zero,yG,x7,xq]⟩ ?_ ?_
   .repeat (refine Ba ?_;first|exact Be|refine Q5W ?_|refine Q67 ?_|refine Bc (by rw[qc5,yr,Nat.mul_zero,yG,x7,x7,Nat.mod_add_div' ];exact ChunkLe.refl _) ?_|fail_if_success skip)
   .rintro⟨j,C⟩ ⟨hj',hC,hrel⟩;have hj':j<=nl b:=hj';have hC:C<4294967296:=hC;have hrel:(S+x*(b%bw j)*bw i) / bw (i+j)=C+S / bw (i+j):=hrel;rcases xP j (nl b) with hjl|hjg
    .obtain⟨m1,m2,m3,m4,m5⟩:=q5a S x b i j C hx hC hrel;have hy:=jfz b j;have hz:=jfz S (i+j);have hold:lm ((S+x*(b%bw j)*bw i)%bw (i+j)+S / bw (i+j)*bw (i+j)) (i+j)=lm S (i+j):=by rw[q1o,if_neg (Nat.lt_irrefl _)]
     have hxy:x*lm b j<=4294967295*4294967295:=yz Q9R Q9R;have ev:IntKind.u64.wrap ((C:Int)+IntKind.u64.wrap (IntKind.u64.wrap (IntKind.u64.wrap ((x:Nat):Int)*IntKind.u64.wrap ((lm b j:Nat):Int))+IntKind.u64.wrap ((lm ((S+x*(b%bw j)*bw i)%bw (i+j)+S / bw (i+j)*bw (i+j)) (i+j):Nat):Int)))=((C+(x*lm b j+lm S (i+j)):Nat):Int):=by
      rw[hold,w64 (n:=x) Q9R,w64 (n:=lm b j) Q9R,w64 (n:=lm S (i+j)) Q9R,<-yn,w64 (n:=x*lm b j) Q9R,<-zk,w64 (n:=x*lm b j+lm S (i+j)) Q9R,<-zk,w64 m3]
     generalize hT:C+(x*lm b j+lm S (i+j))=T at *;repeat' (refine Ba ?_;first|refine Q5V ?_|refine Q5R ?_|refine Bi j 1 Qaw Q9R ?_|refine Bk _ (qb1 (p:=j) Q9R Q9R) ?_|refine Bi (i+j) 1 Qaw Q9R ?_|refine Bk _ (qb1 (p:=i+j) Q9R Q9R) ?_|refine N.store _ (qwy (p':=S+x*(b%bw (j+1))*bw i) Q9R Q9R (by rw[ev,w32,m1]) m5) ?_|refine Q64 ?_|fail)
     refine Ba ?_;refine N.next ((j+1,T / 4294967296):Nat×Nat) ⟨⟨by show j+1<=nl b;omega,m4,m2⟩,by show nl b-(j+1)<nl b-j;omega⟩ ?_;repeat (refine Ba ?_;first|exact Be|refine Q5W ?_|refine Q67 ?_|refine Q7r ?_|refine Bc (jf2 (by rw[ev,jlp])) ?_|fail_if_success skip)
    .obtain rfl:j=nl b:=by omega
     have hq0:S / bw (i+nl b)=0:=xM hSlt;have hCe:(C:Int)=((lm (a%bw (i+1)*b) (i+nl b):Nat):Int):=by
      rw[hq0,x7,<-hV] at hrel;unfold lm;rw[hrel,xC hC]
     have hch:(S+x*(b%bw (nl b))*bw i)%bw (i+nl b)+S / bw (i+nl b)*bw (i+nl b)=(a%bw (i+1)*b)%bw (i+nl b):=by rw[hq0,yG,x7,<-hV]
     have hme:a%bw (i+1)*b=a%bw (i+1)*b%bw (i+nl b+1):=(xC hVlt).symm;rw[hch];repeat' (refine Ba ?_;first|refine Q5V ?_|refine Q5R ?_|refine Bi (i+nl b) 1 Qaw Q9R ?_|refine N.store _ (qcj (v:=a%bw (i+1)*b) Q9R Q9R (by rw[w32,xC hC];exact hCe)) ?_|refine Q60 ?_|fail)
     refine Q47 ?_;repeat (refine Ba ?_;first|exact Be|refine Q5W ?_|refine Q67 ?_|refine Q7r ?_|refine Bc (by rw[<-hme];exact ChunkLe.refl _) ?_|fail_if_success skip)
  .obtain rfl:i=nl a:=by omega
   have he:a%bw (nl a)*b=a*b:=by rw[xC (qby a)]
   repeat' (refine Ba ?_;first|refine Q5V ?_|refine Q5R ?_|refine Bb (jil (a*b) (nl a+nl b) (nl a+nl b) _ _ _ Q9S Qau Q9R Q9R hab) ?_|refine Bc (ji6 Q9S rfl) ?_|refine Bc ⟨⟨by show 2<=10;decide,qhs Q9S rfl Qau⟩,xb⟩ ?_|refine Q60 ?_|refine Bc xb ?_|exact Be|fail)
theorem jel(a b m q i j K:Nat)(o o2:Chunk)(h:Hp)(hi:h[i]?=some (some o))(hin:jfk o m a)(hj:h[j]?=some (some o2))(hjn:jfk o2 q b)(hl:nl a<=m)(hm:m<=31)(hl2:nl b<=q)(hq:q<=31)(hba:b<=a)(hp:0<nl a)(h0:h[K]?=some none):
  qae prog 162 [.slice (some ⟨i,0,some 0⟩) (nl a) m,.slice (some ⟨j,0,some 0⟩) (nl b) q] h (.slice (some ⟨K,0,some 0⟩) (nl (a-b)) (nl a)) [(K,jfj true (nl a) (a-b))] [i,j]:=by
 have hs:a-b<bw (nl a):=xQ (Nat.sub_le _ _) (qby a)
 refine qak (G:=tys) [⟨i,_,jfj false m a,⟨false,0,[]⟩⟩,⟨j,_,jfj false q b,⟨false,0,[]⟩⟩] [⟨K,6,jfj true (nl a) (a-b)⟩] [.slice (some ⟨0,0,some 0⟩) (nl a) m,.slice (some ⟨1,0,some 0⟩) (nl b) q] tysOK mixed func162 Q9S (call162) ⟨hi,hj,xb⟩ Q86 Q9X ⟨⟨h0,rfl,by show 0<nl a;exact hp,by simp⟩,xb⟩ Q8H ?_
 repeat' (refine Ba ?_;first|refine Q5V ?_|refine Q5R ?_|refine MakeN.mk1 (nl a) (nl a) rfl rfl (by show 4*(nl a)<=_;omega) Q9R (x9 _).symm ?_|fail)
 refine Ba ?_
 refine Bo (α:=Nat) (λi=>i<=nl a) (λi=>nl a-i) (λi=>[(13,xc (i:Int)),(6,xc (brw a b i))]) (λi=>[(6,jfj true (nl a) ((a-b)%bw i))]) 0 (xi _) ?_ ?_
 .repeat (refine Ba ?_;first|exact Be|refine Q5W ?_|refine Q67 ?_|refine Bc (by rw[qc5,yr];exact qje) ?_|refine Bc (jf2 (by unfold brw;rw[qc5,yr,yr];rfl)) ?_|fail_if_success skip)
 .intro i hi';have hi':i<=nl a:=hi';rcases xP i (nl a) with hlt|hge
  .obtain⟨m1,m2,m3,m4⟩:=q5b a b i hba;have hx:=jfz a i;have hy:=jfz b i;have hsh:∀z:Int,z.fdiv (2^sh 32 IntKind.i64)=z.fdiv 4294967296:=λz=>rfl
   generalize hc0:brw a b i=C at *;have ev:IntKind.i64.wrap (IntKind.i64.wrap (C+IntKind.i64.wrap ((lm a i:Nat):Int))-IntKind.i64.wrap ((lm b i:Nat):Int))=C+(lm a i:Nat)-(lm b i:Nat):=by
    rw[jgd (lm a i:Nat) Q9R Q9R,jgd (lm b i:Nat) Q9R Q9R,jgd (C+(lm a i:Nat)) Q9R Q9R,jgd _ Q9R Q9R]
   rcases xP i (nl b) with hib|hib
   .repeat' (refine Ba ?_;first|refine Q5V ?_|refine Q5R ?_|refine Q7c ?_|refine Q7F ?_|refine N.store _ (qcj rfl Q9R (by rw[ev,wrap_u32,m1])) ?_|refine Q64 ?_|fail)
    refine Q47 ?_;repeat (refine Ba ?_;first|exact Be|refine Q5W ?_|refine Q67 ?_|refine Q7r ?_|refine Bc (jf2 (by rw[ev,hsh,m2])) ?_|fail_if_success skip)
   .have hz:lm b i=0:=qm9 (xl (qby b) (qjx hib));have ev0:IntKind.i64.wrap (C+IntKind.i64.wrap ((lm a i:Nat):Int))=C+(lm a i:Nat)-(lm b i:Nat):=by
     rw[hz,jgd (lm a i:Nat) Q9R Q9R,jgd _ Q9R Q9R];omega
    repeat' (refine Ba ?_;first|refine Q5V ?_|refine Q5R ?_|refine Q7c ?_|refine Q7F ?_|refine N.store _ (qcj rfl Q9R (by rw[ev0,wrap_u32,m1])) ?_|refine Q64 ?_|refine Q60 ?_|fail)
    refine Q47 ?_;repeat (refine Ba ?_;first|exact Be|refine Q5W ?_|refine Q67 ?_|refine Q7r ?_|refine Bc (jf2 (by rw[ev0,hsh,m2])) ?_|fail_if_success skip)
  .obtain rfl:i=nl a:=by omega
   have he:(a-b)%bw (nl a)=a-b:=xC hs;repeat' (refine Ba ?_;first|refine Q5V ?_|refine Q5R ?_|refine Bb (jil (a-b) (nl a) (nl a) _ _ _ Q9S Qau Q9R Q9R hs) ?_|refine Q77 ?_|refine Q60 ?_|refine Bc xb ?_|exact Be|fail)
theorem jem(a b m q i j K:Nat)(o o2:Chunk)(h:Hp)(hi:h[i]?=some (some o))(hin:jfk o m a)(hj:h[j]?=some (some o2))(hjn:jfk o2 q b)(hl:nl a<=m)(hm:m<=31)(hl2:nl b<=q)(hq:q<=31)(hba:nl b<=nl a)(h0:h[K]?=some none):
  qae prog 160 [.slice (some ⟨i,0,some 0⟩) (nl a) m,.slice (some ⟨j,0,some 0⟩) (nl b) q] h (.slice (some ⟨K,0,some 0⟩) (nl (a+b)) (nl a+1)) [(K,jfj true (nl a+1) (a+b))] [i,j]:=by
 have hs:a+b<bw (nl a+1):=by
  rw[qdm];have h1:=qby a;have h2:=nl_le.1 (show nl b<=nl a by omega);omega
 refine qak (G:=tys) [⟨i,_,jfj false m a,⟨false,0,[]⟩⟩,⟨j,_,jfj false q b,⟨false,0,[]⟩⟩] [⟨K,6,jfj true (nl a+1) (a+b)⟩] [.slice (some ⟨0,0,some 0⟩) (nl a) m,.slice (some ⟨1,0,some 0⟩) (nl b) q] tysOK mixed func160 Q9S (call160) ⟨hi,hj,xb⟩ Q86 Q9X ⟨⟨h0,rfl,by show 0<nl a+1;omega,by simp⟩,xb⟩ Q8H ?_
 repeat' (refine Ba ?_;first|refine Q5V ?_|refine Q5R ?_|refine MakeN.mk1 (nl a+1) (nl a+1) Qax Qax (by show 4*(nl a+1)<=_;omega) Q9R (x9 _).symm ?_|refine Q60 ?_|fail)
 refine Ba ?_
 refine Bo (α:=Nat) (λi=>i<=nl a) (λi=>nl a-i) (λi=>[(21,xc (i:Int)),(6,.int .u64 (((a%bw i+b%bw i) / bw i:Nat):Int))]) (λi=>[(6,jfj true (nl a+1) ((a+b)%bw i))]) 0 (xi _) ?_ ?_
 .exact Q2P
 .intro i hi';have hi':i<=nl a:=hi';have hcm:a+b=a+b:=by omega
  rcases xP i (nl a) with hlt|hge
  .obtain⟨m1,m2,m3⟩:=qvn a b i;rw[hcm] at m1;generalize hC:(a%bw i+b%bw i) / bw i=C at *;have hx:=jfz a i;have hy:=jfz b i;have ev:IntKind.u64.wrap (IntKind.u64.wrap ((C:Int)+IntKind.u64.wrap ((lm a i:Nat):Int))+IntKind.u64.wrap ((lm b i:Nat):Int))=((C+lm a i+lm b i:Nat):Int):=by
    rw[w64 (n:=lm a i) Q9R,w64 (n:=lm b i) Q9R,<-zk,w64 (n:=C+lm a i) Q9R,<-zk,w64 Q9R]
   have ev0:IntKind.u64.wrap ((C:Int)+IntKind.u64.wrap ((lm a i:Nat):Int))=((C+lm a i:Nat):Int):=by
    rw[w64 (n:=lm a i) Q9R,<-zk,w64 (n:=C+lm a i) Q9R]
   rcases xP i (nl b) with hib|hib
   .refine Q2p ?_;refine N.next (i+1) ⟨by show i+1<=nl a;omega,by omega⟩ ?_;exact Q2Q
   .have hz:lm b i=0:=qm9 (xl (qby b) (qjx hib));refine Q2a ?_;refine N.next (i+1) ⟨by show i+1<=nl a;omega,by omega⟩ ?_;exact Q2N
  .obtain rfl:i=nl a:=by omega
   have ha:=qby a;have hb:=nl_le.1 (show nl b<=nl a by omega);have hc:((a%bw (nl a)+b%bw (nl a)) / bw (nl a))=lm (a+b) (nl a):=Q3Z;have hlt:=jfz (a+b) (nl a);have he:(a+b)%bw (nl a+1)=a+b:=xC hs;repeat' (refine Ba ?_;first|refine Q5V ?_|refine Q5R ?_|refine Bi (nl a) 1 rfl Q9R ?_|refine N.store _ (qcj rfl Q9R (by rw[w32,hc];omega)) ?_|refine Bb (jil (a+b) (nl a+1) (nl a+1) _ _ _ Q9S Qau Q9R Q9R hs) ?_|refine Q77 ?_|refine Q60 ?_|refine Bc xb ?_|exact Be|fail)
theorem jen(a b m q i j K:Nat)(o o2:Chunk)(h:Hp)(hi:h[i]?=some (some o))(hin:jfk o m a)(hj:h[j]?=some (some o2))(hjn:jfk o2 q b)(hl:nl a<=m)(hm:m<=31)(hl2:nl b<=q)(hq:q<=31)(hba:nl a<nl b)(h0:h[K]?=some none):
  qae prog 160 [.slice (some ⟨i,0,some 0⟩) (nl a) m,.slice (some ⟨j,0,some 0⟩) (nl b) q] h (.slice (some ⟨K,0,some 0⟩) (nl (a+b)) (nl b+1)) [(K,jfj true (nl b+1) (a+b))] [i,j]:=by
 have hs:a+b<bw (nl b+1):=by
  rw[qdm];have h1:=qby b;have h2:=nl_le.1 (show nl a<=nl b by omega);omega
 refine qak (G:=tys) [⟨i,_,jfj false m a,⟨false,0,[]⟩⟩,⟨j,_,jfj false q b,⟨false,0,[]⟩⟩] [⟨K,6,jfj true (nl b+1) (a+b)⟩] [.slice (some ⟨0,0,some 0⟩) (nl a) m,.slice (some ⟨1,0,some 0⟩) (nl b) q] tysOK mixed func160 Q9S (call160) ⟨hi,hj,xb⟩ Q86 Q9X ⟨⟨h0,rfl,by show 0<nl b+1;omega,by simp⟩,xb⟩ Q8H ?_
 repeat' (refine Ba ?_;first|refine Q5V ?_|refine Q5R ?_|refine MakeN.mk1 (nl b+1) (nl b+1) Qax Qax (by show 4*(nl b+1)<=_;omega) Q9R (x9 _).symm ?_|refine Q64 ?_|fail)
 refine Ba ?_
 refine Bo (α:=Nat) (λi=>i<=nl b) (λi=>nl b-i) (λi=>[(21,xc (i:Int)),(6,.int .u64 (((b%bw i+a%bw i) / bw i:Nat):Int))]) (λi=>[(6,jfj true (nl b+1) ((a+b)%bw i))]) 0 (xi _) ?_ ?_
 .exact Q2P
 .intro i hi';have hi':i<=nl b:=hi';have hcm:b+a=a+b:=by omega
  rcases xP i (nl b) with hlt|hge
  .obtain⟨m1,m2,m3⟩:=qvn b a i;rw[hcm] at m1;generalize hC:(b%bw i+a%bw i) / bw i=C at *;have hx:=jfz b i;have hy:=jfz a i;have ev:IntKind.u64.wrap (IntKind.u64.wrap ((C:Int)+IntKind.u64.wrap ((lm b i:Nat):Int))+IntKind.u64.wrap ((lm a i:Nat):Int))=((C+lm b i+lm a i:Nat):Int):=by
    rw[w64 (n:=lm b i) Q9R,w64 (n:=lm a i) Q9R,<-zk,w64 (n:=C+lm b i) Q9R,<-zk,w64 Q9R]
   have ev0:IntKind.u64.wrap ((C:Int)+IntKind.u64.wrap ((lm b i:Nat):Int))=((C+lm b i:Nat):Int):=by
    rw[w64 (n:=lm b i) Q9R,<-zk,w64 (n:=C+lm b i) Q9R]
   rcases xP i (nl a) with hib|hib
   .refine Q2p ?_;refine N.next (i+1) ⟨by show i+1<=nl b;omega,by omega⟩ ?_;exact Q2Q
   .have hz:lm a i=0:=qm9 (xl (qby a) (qjx hib));refine Q2a ?_;refine N.next (i+1) ⟨by show i+1<=nl b;omega,by omega⟩ ?_;exact Q2N
  .obtain rfl:i=nl b:=by omega
   have ha:=qby b;have hb:=nl_le.1 (show nl a<=nl b by omega);have hc:((b%bw (nl b)+a%bw (nl b)) / bw (nl b))=lm (a+b) (nl b):=Q3Z;have hlt:=jfz (a+b) (nl b);have he:(a+b)%bw (nl b+1)=a+b:=xC hs;repeat' (refine Ba ?_;first|refine Q5V ?_|refine Q5R ?_|refine Bi (nl b) 1 rfl Q9R ?_|refine N.store _ (qcj rfl Q9R (by rw[w32,hc];omega)) ?_|refine Bb (jil (a+b) (nl b+1) (nl b+1) _ _ _ Q9S Qau Q9R Q9R hs) ?_|refine Q77 ?_|refine Q60 ?_|refine Bc xb ?_|exact Be|fail)
theorem qna:Selfish zX:=λp S w h=>(h.1 _).2 rfl
theorem q6y:jfk zC 0 0:=⟨rfl,nzj⟩
theorem nl0{a:Nat}(h:nl a=0):a=0:=nl_zero_iff.1 h
variable{ix:List (Nat×Nat)}
theorem q6z{h:Hp}{k:Nat}(hh:h[k]?=some (some zC)):PostC ix h k zC:=⟨zC,hh,id,nlr _,nzj⟩
theorem jar(a b m q i j K:Nat)(o o2:Chunk)(h:Hp)(hi:h[i]?=some (some o))(hin:jfk o m a)(hj:h[j]?=some (some o2))(hjn:jfk o2 q b)(hl:nl a<=m)(hm:m<=31)(hl2:nl b<=q)(hq:q<=31)(hz:nl a+nl b=0)(h0:h[K]?=some none):
  qae prog 135 [.slice (some ⟨i,0,some 0⟩) (nl a) m,.slice (some ⟨j,0,some 0⟩) (nl b) q] h (.slice (some ⟨K,0,some 0⟩) 0 0) [(K,zC)] [i,j]:=by
 have ha0:nl a=0:=by omega
 have hb0:nl b=0:=by have:=nl0 ha0;omega
 refine qar (G:=tys) (λ_:Unit=>True) (λ_=>partH [⟨i,_,jfj false m a,⟨false,0,[]⟩⟩,⟨j,_,jfj false q b,⟨false,0,[]⟩⟩]) [⟨i,_,jfj false m a,⟨false,0,[]⟩⟩,⟨j,_,jfj false q b,⟨false,0,[]⟩⟩] [⟨K,10,zC⟩] [.slice (some ⟨0,0,some 0⟩) (nl a) m,.slice (some ⟨1,0,some 0⟩) (nl b) q] tysOK mixed func135 Q9S (call135) ⟨hi,hj,xb⟩ Q86 Q9X ⟨.inl rfl,.inl rfl,xb⟩ ⟨⟨h0,rfl,.inr qna,by simp⟩,xb⟩ Q8H Opens.same (λ_ _=>?_)
 repeat' (refine Ba ?_;first|refine Q5V ?_|refine Q5R ?_|refine N.mk (.inr ⟨by rw[ha0,hb0];rfl,by rw[ha0,hb0];rfl,?_⟩)|refine Q7g ?_|refine Bc ⟨⟨by show 2<=10;decide,q6z Q9S⟩,xb⟩ ?_|refine Q7O ?_|exact Be|fail)
theorem jas(a b m q i j K:Nat)(o o2:Chunk)(h:Hp)(hi:h[i]?=some (some o))(hin:jfk o m a)(hj:h[j]?=some (some o2))(hjn:jfk o2 q b)(hl:nl a<=m)(hm:m<=31)(hl2:nl b<=q)(hq:q<=31)(hz:nl a=0)(hba:b<=a)(h0:h[K]?=some none):
  qae prog 162 [.slice (some ⟨i,0,some 0⟩) (nl a) m,.slice (some ⟨j,0,some 0⟩) (nl b) q] h (.slice (some ⟨K,0,some 0⟩) 0 0) [(K,zC)] [i,j]:=by
 have ha0:nl a=0:=by omega
 have hb0:nl b=0:=by have:=nl0 ha0;have hb:b=0:=Q9R;rw[hb,qed]
 refine qar (G:=tys) (λ_:Unit=>True) (λ_=>partH [⟨i,_,jfj false m a,⟨false,0,[]⟩⟩,⟨j,_,jfj false q b,⟨false,0,[]⟩⟩]) [⟨i,_,jfj false m a,⟨false,0,[]⟩⟩,⟨j,_,jfj false q b,⟨false,0,[]⟩⟩] [⟨K,6,zC⟩] [.slice (some ⟨0,0,some 0⟩) (nl a) m,.slice (some ⟨1,0,some 0⟩) (nl b) q] tysOK mixed func162 Q9S (call162) ⟨hi,hj,xb⟩ Q86 Q9X ⟨.inl rfl,.inl rfl,xb⟩ ⟨⟨h0,rfl,.inr qna,by simp⟩,xb⟩ Q8H Opens.same (λ_ _=>?_)
 repeat' (refine Ba ?_;first|refine Q5V ?_|refine Q5R ?_|refine N.mk (.inr ⟨by rw[ha0];rfl,by rw[ha0];rfl,?_⟩)|refine Q7g ?_|refine Bc ⟨⟨by show 2<=6;decide,q6z Q9S⟩,xb⟩ ?_|refine Q7O ?_|exact Be|fail)
structure Nm where
 v:Nat
 b:Nat
 o:Nat
 c:Nat
abbrev Nm.sl(e:Nm):Value:=.slice (some ⟨e.b,e.o,none⟩) (nl e.v) e.c
abbrev Nm.big(s:Bool)(e:Nm):Value:=.agg #[.bool s,.bool false,.slice (some ⟨e.b,e.o,none⟩) (nl e.v) e.c]
structure NumAt(w:World)(e:Nm):Prop where
 lt:e.b<w.heap.size
 len:nl e.v<=e.c
 cap:e.c<=31
 cell:∀j,j<e.c->w.cell? ⟨e.b,e.o+j,none⟩=some (.int .u32 ((lm e.v j:Nat):Int))
variable{w:World}
theorem q1p{w':World}{b o:Nat}(h:w'.heap[b]?=w.heap[b]?):w'.cell? ⟨b,o,none⟩=w.cell? ⟨b,o,none⟩:=by
 simp only[World.cell?,h]
variable{e:Nm}
theorem NumAt.keep{w':World}(h:NumAt w e)(hb:w'.heap[e.b]?=w.heap[e.b]?):NumAt w' e:=by
 refine⟨?_,h.len,h.cap,λj hj=>(q1p hb).trans (h.cell j hj)⟩;have hlt:=h.lt;have:w.heap[e.b]?=some (w.heap[e.b]'hlt):=za hlt;rw[this] at hb;exact(xO.1 hb).1
theorem NumAt.below{w':World}(h:NumAt w e)(hb:Below w.heap.size w w'):NumAt w' e:=h.keep (hb.block e.b h.lt)
abbrev arX(L:List Nm):Ext where
 inv:=λp S w=>∀e∈L,S e.b/\NumAt w e
 keep:=λh hb e he=>⟨(h e he).1,(h e he).2.keep (hb _ (h e he).1)⟩
abbrev arC(L:List Nm):Chunk:=@Chunk.mk (arX L) true 0 []
section
variable{X:Ctx}{ρ:Rz}{h:Hp}{w w':World}
theorem jeo{K:Nat}{es:List Nm}{e0:Nm}(H:HOK X ρ h w)(hi:h[K]?=some none)(hB:Below w.heap.size w w')(h0:e0∈es)(hes:∀e∈es,NumAt w' e/\w.heap.size<=e.b):∃ρ',AgreeOn (Fil h) ρ ρ'/\HOK X ρ' (h.set K (some (arC es))) w':=by
 obtain⟨ρ',h1,_,h2⟩:=H.newX hi (d:=arC es) (b0:=e0.b) (S':=λb=>∃e∈es,b=e.b) rfl hB ⟨(hes e0 h0).2,(hes e0 h0).1.lt⟩ (λb ⟨e,he,hb⟩=>by subst hb;exact⟨(hes e he).2,(hes e he).1.lt⟩) (λe he=>⟨⟨e,he,rfl⟩,(hes e he).1⟩);exact⟨ρ',h1,h2⟩
theorem jat{i:Nat}{L es:List Nm}(H:HOK X ρ h w)(hi:h[i]?=some (some (arC L)))(hB:Below w.heap.size w w')(hes:∀e∈es,NumAt w' e/\w.heap.size<=e.b):HOK X ρ (h.set i (some (arC (es++L)))) w':=by
 obtain⟨S,E⟩:=H.ext;have hin:=E.inv i _ hi;refine H.turnX E hi (d:=arC (es++L)) (S':=λb=>S i b\/∃e∈es,b=e.b) id (nlr _) (nzj) hB.os hB.tape hB.output hB.size (λb hb _=>hB.block b hb) (λb hb=>?_) (λe he=>?_)
 .rcases hb with hb|⟨e,he,rfl⟩
  .exact Q5u
  .exact⟨(hes e he).1.lt,.inl rfl,.inr (hes e he).2⟩
 .rcases yM.1 he with he|he
  .exact⟨.inr ⟨e,he,rfl⟩,(hes e he).1⟩
  .exact⟨.inl (hin e he).1,(hin e he).2.below hB⟩
end
inductive SrcS(h:Hp)(L:List Nm):Value->Nat->Prop
 | ar {e:Nm} (he:e∈L):SrcS h L (.slice (some ⟨e.b,e.o,none⟩) (nl e.v) e.c) e.v
 | ch {j v c:Nat} {o:Chunk} (hj:h[j]?=some (some o)) (hn:jfk o c v) (hl:nl v<=c) (hm:c<=31):SrcS h L (.slice (some ⟨j,0,some 0⟩) (nl v) c) v
inductive AV where
 | at_ (e:Nm)
 | bigat (s:Bool) (e:Nm)
 | pl (v:Value)
 | sl (v:Nat)
 | big (s:Bool) (v:Nat)
inductive ArgS(h:Hp)(L:List Nm):Value->AV->Prop
 | at_ {e:Nm} (he:e∈L):ArgS h L (.slice (some ⟨e.b,e.o,none⟩) (nl e.v) e.c) (.at_ e)
 | bigat {s:Bool} {e:Nm} (he:e∈L):ArgS h L (.agg #[.bool s,.bool false,.slice (some ⟨e.b,e.o,none⟩) (nl e.v) e.c]) (.bigat s e)
 | pl {v:Value} (hp:qap v=true):ArgS h L v (.pl v)
 | sl {sv:Value} {v:Nat} (s:SrcS h L sv v):ArgS h L sv (.sl v)
 | big {b:Bool} {sv:Value} {v:Nat} (s:SrcS h L sv v):ArgS h L (.agg #[.bool b,.bool false,sv]) (.big b v)
inductive AR(w:World):AV->Value->Prop
 | at_ {e:Nm} (ha:NumAt w e):AR w (.at_ e) e.sl
 | bigat {s:Bool} {e:Nm} (ha:NumAt w e):AR w (.bigat s e) (e.big s)
 | pl {v:Value} (hp:qap v=true):AR w (.pl v) v
 | sl {e:Nm} {v:Nat} (ha:NumAt w e) (hv:e.v=v):AR w (.sl v) e.sl
 | big {s:Bool} {e:Nm} {v:Nat} (ha:NumAt w e) (hv:e.v=v):AR w (.big s v) (e.big s)
theorem SrcS.at{X:Ctx}{ρ:Rz}{h:Hp}{w:World}{L:List Nm}{sv:Value}{v:Nat}(H:HOK X ρ h w)(ha:∀e∈L,NumAt w e)(s:SrcS h L sv v):
  ∃e:Nm,NumAt w e/\e.v=v/\den ρ sv=e.sl/\den0 ρ sv=e.sl/\den1 ρ sv=e.sl:=by
 cases s with
 | ar he=>rename_i e;exact⟨e,ha e he,rfl,rfl,rfl,rfl⟩
 | ch hj hn hl hm=>
  rename_i j c o;refine⟨⟨v,(ρ j).1,(ρ j).2,c⟩,⟨H.lt j o hj,hl,hm,λk hk=>?_⟩,rfl,rfl,rfl,rfl⟩;obtain⟨x,hx,hd⟩:=H.cell j o hj k (by rw[hn.1];exact hk);rw[hn.2 k hk] at hd;show w.cell? ⟨(ρ j).1,(ρ j).2+k,none⟩=_;rw[hx,<-hd.self];rfl
theorem qo5{X:Ctx}{ρ:Rz}{h:Hp}{w:World}{L:List Nm}(H:HOK X ρ h w)(ha:∀e∈L,NumAt w e):∀{vs:List Value}{qs:List AV}{xs:List Value},All2 (ArgS h L) vs qs->All2 (Den (Fil h) ρ) vs xs->All2 (AR w) qs xs
 | [],[],[],_,_=>trivial
 | [],[],_::_,_,h=>h.elim
 | [],_::_,_,h,_=>h.elim
 | _::_,[],_,h,_=>h.elim
 | _::_,_::_,[],_,h=>h.elim
 | v::vs,a::qs,x::xs,h1,h2=>by
  refine⟨?_,qo5 H ha h1.2 h2.2⟩;have hd:=h2.1.self;cases h1.1 with
  | at_ he=>rename_i e;rw[<-hd];exact .at_ (ha e he)
  | bigat he=>
   rename_i s e;rw[qbc (v:=Nm.big s e) rfl] at hd;rw[<-hd];exact .bigat (ha e he)
  | pl hp=>rw[qbc hp] at hd;rw[<-hd];exact .pl hp
  | sl s=>
   obtain⟨e,h1,h2,h3,_⟩:=s.at H ha;rw[h3] at hd;rw[<-hd];exact .sl h1 h2
  | big s=>
   rename_i b sv u;obtain⟨e,h1,h2,_,_,h3⟩:=s.at H ha;have e1:den ρ (.agg #[.bool b,.bool false,sv])=.agg #[den1 ρ (.bool b),den1 ρ (.bool false),den1 ρ sv]:=by
    simp only[den,den2,yK,xp,x8]
   rw[e1,h3] at hd;rw[<-hd];exact .big h1 h2
section
variable{P:Program}{G:Tys}
variable{vs:List Value}{qs:List AV}{L:List Nm}
theorem q5c{g:FuncId}{h:Hp}{α:Type}(i:Nat)(hi:h[i]?=some (some (arC L)))(ok:α->Prop)(V:α->Value)(es:α->List Nm)(hr:∀xs w,(callFunc g xs).run P w=.ok (.enter g xs) w)(ha:All2 (ArgS h L) vs qs)(hV:∀κ,ok κ->qam (V κ)=true)
  (hc:∀w xs,All2 (AR w) qs xs->Calls P g ⟨xs⟩ w λe w'=>∃κ,ok κ/\e=.returned (V κ)/\Below w.heap.size w w'/\∀n∈es κ,NumAt w' n/\w.heap.size<=n.b) :
  CallAll P g vs h λv ms=>∃κ,ok κ/\v=V κ/\ms=[(i,arC (es κ++L))]:=λX ρ w xs H hx=>by
 obtain⟨S,E⟩:=H.ext
 have hL:∀e∈L,NumAt w e:=λe he=>((E.inv i _ hi) e he).2
 refine .inr ⟨hr _ w,(hc w xs (qo5 H hL ha hx)).mono ?_⟩
 rintro e w' ⟨κ,hok,rfl,hB,hes⟩
 exact⟨V κ,rfl,V κ,_,ρ,⟨κ,hok,rfl,rfl⟩,AgreeOn.refl _ _,jat H hi hB hes,λr _=>qa5 (hV κ hok) r⟩
theorem q5d{g:FuncId}{h:Hp}{α:Type}(K:Nat)(hi:h[K]?=some none)(ok:α->Prop)(V:α->Value)(es:α->List Nm)(hr:∀xs w,(callFunc g xs).run P w=.ok (.enter g xs) w)(ha:All2 (ArgS h []) vs qs)(hV:∀κ,ok κ->qam (V κ)=true)(h0:∀κ,ok κ->es κ≠[])
  (hc:∀w xs,All2 (AR w) qs xs->Calls P g ⟨xs⟩ w λe w'=>∃κ,ok κ/\e=.returned (V κ)/\Below w.heap.size w w'/\∀n∈es κ,NumAt w' n/\w.heap.size<=n.b) :
  CallAll P g vs h λv ms=>∃κ,ok κ/\v=V κ/\ms=[(K,arC (es κ))]:=λX ρ w xs H hx=>by
 refine .inr ⟨hr _ w,(hc w xs (qo5 H (λe he=>by cases he) ha hx)).mono ?_⟩
 rintro e w' ⟨κ,hok,rfl,hB,hes⟩
 obtain⟨e0,he0⟩:=List.exists_mem_of_ne_nil _ (h0 κ hok)
 obtain⟨ρ',h1,h2⟩:=jeo H hi hB he0 hes
 exact⟨V κ,rfl,V κ,_,ρ',⟨κ,hok,rfl,rfl⟩,h1,h2,λr _=>qa5 (hV κ hok) r⟩
theorem q5e{g:FuncId}{h:Hp}{V:Value}(rh:List Nat)(i:Nat)(hi:h[i]?=some (some (arC L))\/L=[])(hrh:i∈rh\/L=[])(hr:∀xs w,(callFunc g xs).run P w=.ok (.enter g xs) w)(ha:∀h₂:Hp,(∀i∈rh,h₂[i]?=h[i]?)->All2 (ArgS h₂ L) vs qs)(hV:qam V=true)
  (hc:∀w xs,All2 (AR w) qs xs->Calls P g ⟨xs⟩ w λe w'=>e=.returned V/\Below w.heap.size w w') :
  qae P g vs h V [] rh:=λh₂ hrr _ X ρ w xs H hx=>by
 obtain⟨S,E⟩:=H.ext
 have hL:∀e∈L,NumAt w e:=λe he=>by
  rcases hi with hi|hi
  .rcases hrh with h1|h1
   .exact((E.inv i _ ((hrr i h1).trans hi)) e he).2
   .rw[h1] at he;cases he
  .rw[hi] at he;cases he
 refine .inr ⟨hr _ w,(hc w xs (qo5 H hL (ha h₂ hrr) hx)).mono ?_⟩
 rintro e w' ⟨rfl,hB⟩
 exact⟨V,rfl,ρ,AgreeOn.refl _ _,H.frame hB,λr _=>qa5 hV r⟩
def jhq(es:List Nm):Hp:=es.map λe=>some (jfj false e.c e.v)
def jlq(es:List Nm)(k:Nat):Nat×Nat:=match es[k]? with
 | some e=>(e.b,e.o)
 | none=>(0,0)
variable{es:List Nm}{w:World}
theorem qo6(m:Nat)(he:∀e∈es,NumAt w e):HOK ⟨w,λ_=>False,0,jlq es⟩ (jlq es) (jhq es++List.replicate m none) w:=by
 have getP:∀(k:Nat)(c:Chunk),(jhq es++List.replicate m none)[k]?=some (some c)->∃e:Nm,es[k]?=some e/\jfj false e.c e.v=c:=λk c hk=>by
  have hlen:(jhq es).length=es.length:=by simp[jhq]
  rcases xP k es.length with hlt|hge
  .rw[yH Q9R] at hk;simp only[jhq,xW] at hk;cases e:es[k]? with
   | none=>rw[e] at hk;cases hk
   | some s=>rw[e] at hk;exact⟨s,rfl,by simpa using hk⟩
  .rw[zd Q9R,List.getElem?_replicate] at hk;split at hk
   .cases hk
   .cases hk
 have hρ:∀(k:Nat)(e:Nm),es[k]?=some e->jlq es k=(e.b,e.o):=λk e hk=>by unfold jlq;rw[hk]
 refine⟨Evo.refl _ _,λi hi=>absurd hi Qa2,λk c hk=>?_,λk c hk j hj=>?_,λk c hk ho=>?_,λk c l d hk ho=>?_,ExtOK.nil λk c hk=>?_⟩
 .obtain⟨e,hs,rfl⟩:=getP k c hk;rw[hρ k e hs];exact(he e (xF hs)).lt
 .obtain⟨e,hs,rfl⟩:=getP k c hk;have hj:j<e.c:=hj;rw[hρ k e hs,qa6 hj];exact⟨_,(he e (xF hs)).cell j hj,Den1.plain rfl⟩
 .obtain⟨e,hs,rfl⟩:=getP k c hk;cases ho
 .obtain⟨e,hs,rfl⟩:=getP k c hk;cases ho
 .obtain⟨e,hs,rfl⟩:=getP k c hk;rfl
inductive NArg(es:List Nm):Value->Value->Prop
 | pl {v:Value} (hp:qap v=true):NArg es v v
 | sl {k:Nat} {e:Nm} (h:es[k]?=some e):NArg es (.slice (some ⟨k,0,some 0⟩) (nl e.v) e.c) e.sl
 | big {k:Nat} {e:Nm} {s:Bool} (h:es[k]?=some e):NArg es (.agg #[.bool s,.bool false,.slice (some ⟨k,0,some 0⟩) (nl e.v) e.c]) (e.big s)
theorem qht{es:List Nm}{m:Nat}:∀{vs xs:List Value},All2 (NArg es) vs xs->All2 (Den (Fil (jhq es++List.replicate m none)) (jlq es)) vs xs
 | [],[],_=>trivial
 | [],_::_,h=>h.elim
 | _::_,[],h=>h.elim
 | v::vs,x::xs,h=>by
  refine⟨?_,qht h.2⟩;have fil:∀(k:Nat)(e:Nm),es[k]?=some e->Fil (jhq es++List.replicate m none) k:=λk e hk=>⟨jfj false e.c e.v,by
   rw[yH (by simp[jhq];exact(xe.1 hk).1)];simp only[jhq,xW,hk];rfl⟩
  have hρ:∀(k:Nat)(e:Nm),es[k]?=some e->jlq es k=(e.b,e.o):=λk e hk=>by unfold jlq;rw[hk]
  cases h.1 with
  | pl hp=>exact Den.plain hp
  | sl hk=>
   intro r hr;have e1:=hr _ (fil _ _ hk);rw[hρ _ _ hk] at e1;simp only[den,den2,den1,den0,jft,e1];rfl
  | big hk=>
   intro r hr;have e1:=hr _ (fil _ _ hk);rw[hρ _ _ hk] at e1;simp only[den,den2,yK,xp,x8,den1,den0,jft,e1];rfl
variable{V:Nat->Value}{rh:List Nat}
theorem qjy{g:FuncId}{xs:List Value}{m v:Nat}(hr:∀xs w,(callFunc g xs).run P w=.ok (.enter g xs) w)(he:∀e∈es,NumAt w e)(hx:All2 (NArg es) vs xs)(hm:0<m/\m<=31)(hl:nl v<=m)(W:Nm->Value)
  (hW:∀(r:Rz),den r (V es.length)=W ⟨v,(r es.length).1,(r es.length).2,m⟩)
  (hc:qae P g vs (jhq es++[none]) (V es.length) [(es.length,jfj true m v)] rh):Calls P g ⟨xs⟩ w λe w'=>∃κ:Nm,κ.v=v/\e=.returned (W κ)/\Below w.heap.size w w'/\NumAt w' κ/\w.heap.size<=κ.b:=by
 rcases hc _ (λ_ _=>rfl) (λ_ _=>rfl) _ _ w xs (qo6 1 he) (qht (m:=1) hx) with ⟨x,w',hrun,_⟩|⟨_,hcl⟩
 .rw[hr] at hrun;cases hrun
 refine hcl.mono ?_
 rintro e w' ⟨x,rfl,ρ',_,H,hd⟩
 have hk:(modH (jhq es++[none]) [(es.length,jfj true m v)])[es.length]?=some (some (jfj true m v)):=Q4R
 refine⟨⟨v,(ρ' es.length).1,(ρ' es.length).2,m⟩,rfl,?_,H.evo.below,⟨H.lt _ _ hk,hl,hm.2,λj hj=>?_⟩,?_⟩
 .rw[<-hW ρ',hd.self]
 .obtain⟨y,hy,hyd⟩:=H.cell _ _ hk j hj;rw[qa6 hj] at hyd;rw[hy,<-hyd.self];rfl
 .rcases(H.own _ _ hk rfl 0 hm.1).2 with h1|h1
  .exact h1
  .exact h1.elim
theorem q5f{g:FuncId}{xs:List Value}{V:Value}(hr:∀xs w,(callFunc g xs).run P w=.ok (.enter g xs) w)(he:∀e∈es,NumAt w e)(hx:All2 (NArg es) vs xs)(W:Value)
  (hW:All2 (NArg es) [V] [W]) (hc:qae P g vs (jhq es++[]) V [] rh):Calls P g ⟨xs⟩ w λe w'=>e=.returned W/\Below w.heap.size w w':=by
 rcases hc _ (λ_ _=>rfl) (λ_ _=>rfl) _ _ w xs (qo6 0 he) (qht (m:=0) hx) with ⟨x,w',hrun,_⟩|⟨_,hcl⟩
 .rw[hr] at hrun;cases hrun
 refine hcl.mono ?_
 rintro e w' ⟨x,rfl,ρ',ha,H,hd⟩
 refine⟨?_,H.evo.below⟩
 have h1:=(qht (m:=0) hW).1 ρ' ha
 rw[<-h1,hd.self]
theorem qvq{g:FuncId}{xs:List Value}(hr:∀xs w,(callFunc g xs).run P w=.ok (.enter g xs) w)(he:∀e∈es,NumAt w e)(hx:All2 (NArg es) vs xs)(W:Nm->Value)
  (hW:∀(r:Rz),den r (V es.length)=W ⟨0,(r es.length).1,(r es.length).2,0⟩)
  (hc:qae P g vs (jhq es++[none]) (V es.length) [(es.length,zC)] rh):Calls P g ⟨xs⟩ w λe w'=>∃κ:Nm,κ.v=0/\e=.returned (W κ)/\Below w.heap.size w w'/\NumAt w' κ/\w.heap.size<=κ.b:=by
 rcases hc _ (λ_ _=>rfl) (λ_ _=>rfl) _ _ w xs (qo6 1 he) (qht (m:=1) hx) with ⟨x,w',hrun,_⟩|⟨_,hcl⟩
 .rw[hr] at hrun;cases hrun
 refine hcl.mono ?_
 rintro e w' ⟨x,rfl,ρ',_,H,hd⟩
 have hk:(modH (jhq es++[none]) [(es.length,zC)])[es.length]?=some (some zC):=Q4R
 obtain⟨S,E⟩:=H.ext
 obtain⟨hS,_⟩:=E.inv _ _ hk
 refine⟨⟨0,(ρ' es.length).1,(ρ' es.length).2,0⟩,rfl,?_,H.evo.below,⟨H.lt _ _ hk,by rw[qed];exact nlr _,by show(0:Nat)<=31;omega,nzj⟩,?_⟩
 .rw[<-hW ρ',hd.self]
 .rcases(E.mine _ _ _ hk ((hS _).2 rfl)).2.2 with h1|h1
  .exact h1
  .exact h1.1.elim
theorem qee{g:FuncId}{h:Hp}{slot:Nat}{C:List Nat->Prop}{K:List Nat->Value->Mz->Prop}(hs:List Nat)(R:Value->Mz->Prop)(hC:C hs)(hc:∀h₂:Hp,(∀q∈hs,h₂[q]?=h[q]?)->CallAll P g vs h₂ R)(k:∀v ms,R v ms->(∀q∈ms.map (·.1),q∈hs)/\K hs v ms):N (jiu P g vs h slot C K):=N.mk ⟨hs,R,hC,hc,k⟩
def Mk(P:Program)(g:FuncId)(xs:List Value)(w:World)(v:Nat)(W:Nm->Value):Prop:=Calls P g ⟨xs⟩ w λe w'=>∃κ:Nm,κ.v=v/\e=.returned (W κ)/\Below w.heap.size w w'/\NumAt w' κ/\w.heap.size<=κ.b
theorem qrp{g:FuncId}{h:Hp}(i:Nat)(hi:h[i]?=some (some (arC L)))(v:Nat)(W:Nm->Value)(hr:∀xs w,(callFunc g xs).run P w=.ok (.enter g xs) w)(ha:All2 (ArgS h L) vs qs)(hW:∀κ:Nm,qam (W κ)=true)(hc:∀w xs,All2 (AR w) qs xs->Mk P g xs w v W):
  CallAll P g vs h λx ms=>∃κ:Nm,κ.v=v/\x=W κ/\ms=[(i,arC (κ::L))]:=
 q5c i hi (λκ:Nm=>κ.v=v) W (λκ=>[κ]) hr ha (λκ _=>hW κ) λw xs hx=>(hc w xs hx).mono λe w' ⟨κ,h1,h2,h3,h4,h5⟩=>⟨κ,h1,h2,h3,λn hn=>by rw[yw.1 hn];exact⟨h4,h5⟩⟩
theorem qkh{g:FuncId}{h:Hp}(K:Nat)(hi:h[K]?=some none)(v:Nat)(W:Nm->Value)(hr:∀xs w,(callFunc g xs).run P w=.ok (.enter g xs) w)(ha:All2 (ArgS h []) vs qs)(hW:∀κ:Nm,qam (W κ)=true)(hc:∀w xs,All2 (AR w) qs xs->Mk P g xs w v W):
  CallAll P g vs h λx ms=>∃κ:Nm,κ.v=v/\x=W κ/\ms=[(K,arC [κ])]:=
 q5d K hi (λκ:Nm=>κ.v=v) W (λκ=>[κ]) hr ha (λκ _=>hW κ) (λ_ _=>by simp) λw xs hx=>(hc w xs hx).mono λe w' ⟨κ,h1,h2,h3,h4,h5⟩=>⟨κ,h1,h2,h3,λn hn=>by rw[yw.1 hn];exact⟨h4,h5⟩⟩
def jq2(h:Hp)(x:Value)(v:Nat)(W:Nm->Value):Prop:=∃(κ:Nm)(i:Nat)(L:List Nm),κ.v=v/\x=W κ/\h[i]?=some (some (arC L))/\κ∈L
variable{W:Nm->Value}
theorem N.endM{h:Hp}{x:Value}{v:Nat}(κ:Nm)(i:Nat)(h1:κ.v=v)(h2:x=W κ)(h3:h[i]?=some (some (arC L)))(h4:κ∈L):N (jq2 h x v W):=N.mk ⟨κ,i,L,h1,h2,h3,h4⟩
theorem qfy{f:FuncId}{fn:Func}{c:Code}{xs:List Value}{v:Nat}(w:World)(hG:jfe P G)(hm:P.follows .mixedOrders=true)(hf:P.funcs[f]?=some fn)(hb:fn.body=some c)(he:∀e∈es,NumAt w e)(hx:All2 (NArg es) vs xs)(hW:∀κ:Nm,qam (W κ)=true)
  (hwp:initK vs fn.ntmps λt=>wpC P G 0 c (bodyQ P G fn λx st=>N (jq2 st.h x v W)) ⟨t,jhq es⟩):Mk P f xs w v W:=by
 have H:=qo6 (w:=w) 0 he
 have hd:=qht (m:=0) hx
 simp only[List.replicate_zero,zv] at H hd
 refine(qfz (args:=⟨xs⟩) hG hm hf hb H hd hwp).mono ?_
 rintro e w' ⟨ρ',x,st,y,rfl,H',hdx,hq⟩
 obtain⟨κ,i,L,h1,h2,h3,h4⟩:=hq.out
 obtain⟨S,E⟩:=H'.ext
 obtain⟨g1,g2⟩:=E.inv i _ h3 κ h4
 refine⟨κ,h1,?_,H'.evo.below,g2,?_⟩
 .rw[<-hdx.self,h2,qa5 (hW κ)]
 .rcases(E.mine _ _ _ h3 g1).2.2 with h5|h5
  .exact h5
  .exact h5.1.elim
end
open Go Go.RowKit Sx
abbrev bz(z:Int):AV:=.big (decide (z<0)) z.natAbs
abbrev bzW(z:Int)(κ:Nm):Value:=.agg #[.bool (decide (z<0)),.bool false,.slice (some ⟨κ.b,κ.o,none⟩) (nl κ.v) κ.c]
variable{xs:List Value}
theorem q1q{a b:Nat}(hx:All2 (AR w) [.sl a,.sl b] xs):∃e e':Nm,xs=[e.sl,e'.sl]/\NumAt w e/\e.v=a/\NumAt w e'/\e'.v=b:=by
 rcases xs with _|⟨x,_|⟨y,_|⟨z,xs⟩⟩⟩<;>first|exact hx.elim|exact hx.2.elim|exact hx.2.2.elim|skip
 obtain⟨h1,h2,_⟩:=hx;cases h1 with
 | sl a1 v1=>cases h2 with
  | sl a2 v2=>exact⟨_,_,rfl,a1,v1,a2,v2⟩
theorem qs9{s u:Bool}{a b:Nat}(hx:All2 (AR w) [.big s a,.big u b] xs):∃e e':Nm,xs=[e.big s,e'.big u]/\NumAt w e/\e.v=a/\NumAt w e'/\e'.v=b:=by
 rcases xs with _|⟨x,_|⟨y,_|⟨z,xs⟩⟩⟩<;>first|exact hx.elim|exact hx.2.elim|exact hx.2.2.elim|skip
 obtain⟨h1,h2,_⟩:=hx;cases h1 with
 | big a1 v1=>cases h2 with
  | big a2 v2=>exact⟨_,_,rfl,a1,v1,a2,v2⟩
theorem jau{s u r:Bool}{a b c:Nat}(hx:All2 (AR w) [.big s a,.big u b,.big r c] xs):∃e e' e'':Nm,xs=[e.big s,e'.big u,e''.big r]/\NumAt w e/\e.v=a/\NumAt w e'/\e'.v=b/\NumAt w e''/\e''.v=c:=by
 rcases xs with _|⟨x,_|⟨y,_|⟨z,_|⟨z',xs⟩⟩⟩⟩<;>first|exact hx.elim|exact hx.2.elim|exact hx.2.2.elim|exact hx.2.2.2.elim|skip
 obtain⟨h1,h2,h3,_⟩:=hx;cases h1 with
 | big a1 v1=>cases h2 with
  | big a2 v2=>cases h3 with
   | big a3 v3=>exact⟨_,_,_,rfl,a1,v1,a2,v2,a3,v3⟩
theorem q60{v:Value}(hx:All2 (AR w) [.pl v] xs):xs=[v]:=by
 rcases xs with _|⟨x,_|⟨y,xs⟩⟩<;>first|exact hx.elim|exact hx.2.elim|skip
 obtain⟨h1,_⟩:=hx;cases h1;rfl
theorem qh1{e':Nm}(h:NumAt w e)(h':NumAt w e'):∀x∈[e,e'],NumAt w x:=λx hx=>by
 rcases xj.1 hx with rfl|hx
 .exact h
 .rw[yw.1 hx];exact h'
theorem jep(h:NumAt w e):∀x∈[e],NumAt w x:=λx hx=>by rw[yw.1 hx];exact h
theorem q5g{e' e'':Nm}(h:NumAt w e)(h':NumAt w e')(h'':NumAt w e''):∀x∈[e,e',e''],NumAt w x:=λx hx=>by
 rcases xj.1 hx with rfl|hx
 .exact h
 .exact qh1 h' h'' x hx
theorem jeq(a b:Nat)(hb:nl a+nl b<=31)(w:World)(xs:List Value)(hx:All2 (AR w) [.sl a,.sl b] xs):Mk prog 135 xs w (a*b) Nm.sl:=by
 obtain⟨e,e',rfl,h1,v1,h2,v2⟩:=q1q hx;subst v1 v2;by_cases hz:nl e.v+nl e'.v=0
 .have e0:e.v*e'.v=0:=by rw[nl0 (show nl e.v=0 by omega)];simp
  rw[e0];exact qvq (V:=λK=>.slice (some ⟨K,0,some 0⟩) 0 0) (es:=[e,e']) (call135) (qh1 h1 h2) (vs:=[.slice (some ⟨0,0,some 0⟩) (nl e.v) e.c,.slice (some ⟨1,0,some 0⟩) (nl e'.v) e'.c]) (xs:=[e.sl,e'.sl]) Q95 Nm.sl (λr=>by show _=Value.slice _ (nl 0) 0;rw[qed];rfl) (jar e.v e'.v e.c e'.c 0 1 2 _ _ _ rfl (jfn _ _ _) rfl (jfn _ _ _) h1.len h1.cap h2.len h2.cap hz rfl)
 .exact qjy (V:=λK=>.slice (some ⟨K,0,some 0⟩) (nl (e.v*e'.v)) (nl e.v+nl e'.v)) (es:=[e,e']) (call135) (qh1 h1 h2) (vs:=[.slice (some ⟨0,0,some 0⟩) (nl e.v) e.c,.slice (some ⟨1,0,some 0⟩) (nl e'.v) e'.c]) (xs:=[e.sl,e'.sl]) Q95 ⟨by omega,by omega⟩ (nl_le.2 (qo4 _ _)) Nm.sl (λr=>rfl) (jaq e.v e'.v e.c e'.c 0 1 2 _ _ _ rfl (jfn _ _ _) rfl (jfn _ _ _) h1.len h1.cap h2.len h2.cap Q9R rfl)
theorem q61(a b:Nat)(hba:b<=a)(w:World)(xs:List Value)(hx:All2 (AR w) [.sl a,.sl b] xs):Mk prog 162 xs w (a-b) Nm.sl:=by
 obtain⟨e,e',rfl,h1,v1,h2,v2⟩:=q1q hx;subst v1 v2;by_cases hz:nl e.v=0
 .have e0:e.v-e'.v=0:=by rw[nl0 (show nl e.v=0 by omega)];simp
  rw[e0];exact qvq (V:=λK=>.slice (some ⟨K,0,some 0⟩) 0 0) (es:=[e,e']) (call162) (qh1 h1 h2) (vs:=[.slice (some ⟨0,0,some 0⟩) (nl e.v) e.c,.slice (some ⟨1,0,some 0⟩) (nl e'.v) e'.c]) (xs:=[e.sl,e'.sl]) Q95 Nm.sl (λr=>by show _=Value.slice _ (nl 0) 0;rw[qed];rfl) (jas e.v e'.v e.c e'.c 0 1 2 _ _ _ rfl (jfn _ _ _) rfl (jfn _ _ _) h1.len h1.cap h2.len h2.cap hz hba rfl)
 .have hl:=h1.len;have hc:=h1.cap;exact qjy (V:=λK=>.slice (some ⟨K,0,some 0⟩) (nl (e.v-e'.v)) (nl e.v)) (es:=[e,e']) (call162) (qh1 h1 h2) (vs:=[.slice (some ⟨0,0,some 0⟩) (nl e.v) e.c,.slice (some ⟨1,0,some 0⟩) (nl e'.v) e'.c]) (xs:=[e.sl,e'.sl]) Q95 ⟨by omega,by omega⟩ (nl_le.2 (xQ (Nat.sub_le _ _) (qby _))) Nm.sl (λr=>rfl) (jel e.v e'.v e.c e'.c 0 1 2 _ _ _ rfl (jfn _ _ _) rfl (jfn _ _ _) h1.len h1.cap h2.len h2.cap hba Q9R rfl)
theorem jp3(a b:Nat)(ha:nl a<=30)(hb:nl b<=30)(w:World)(xs:List Value)(hx:All2 (AR w) [.sl a,.sl b] xs):Mk prog 160 xs w (a+b) Nm.sl:=by
 obtain⟨e,e',rfl,h1,v1,h2,v2⟩:=q1q hx;subst v1 v2;by_cases hz:nl e.v<nl e'.v
 .exact qjy (V:=λK=>.slice (some ⟨K,0,some 0⟩) (nl (e.v+e'.v)) (nl e'.v+1)) (es:=[e,e']) (call160) (qh1 h1 h2) (vs:=[.slice (some ⟨0,0,some 0⟩) (nl e.v) e.c,.slice (some ⟨1,0,some 0⟩) (nl e'.v) e'.c]) (xs:=[e.sl,e'.sl]) Q95 ⟨by omega,by omega⟩ (nl_le.2 (by rw[qdm];have q1:=qby e.v;have q2:=qby e'.v;have q3:=qjx (show nl e.v<=nl e'.v by omega);omega)) Nm.sl (λr=>rfl) (jen e.v e'.v e.c e'.c 0 1 2 _ _ _ rfl (jfn _ _ _) rfl (jfn _ _ _) h1.len h1.cap h2.len h2.cap hz rfl)
 .exact qjy (V:=λK=>.slice (some ⟨K,0,some 0⟩) (nl (e.v+e'.v)) (nl e.v+1)) (es:=[e,e']) (call160) (qh1 h1 h2) (vs:=[.slice (some ⟨0,0,some 0⟩) (nl e.v) e.c,.slice (some ⟨1,0,some 0⟩) (nl e'.v) e'.c]) (xs:=[e.sl,e'.sl]) Q95 ⟨by omega,by omega⟩ (nl_le.2 (by rw[qdm];have q1:=qby e.v;have q2:=qby e'.v;have q3:=qjx (show nl e'.v<=nl e.v by omega);omega)) Nm.sl (λr=>rfl) (jem e.v e'.v e.c e'.c 0 1 2 _ _ _ rfl (jfn _ _ _) rfl (jfn _ _ _) h1.len h1.cap h2.len h2.cap Q9R rfl)
theorem jp4(s:Bool)(e:Nm)(w:World)(h1:NumAt w e):Calls prog 104 ⟨[.bool s,e.sl]⟩ w λe' w'=>e'=.returned (e.big (s&&decide (0<e.v)))/\Below w.heap.size w w':=
 q5f (es:=[e]) (call104) (jep h1) (vs:=[.bool s,.slice (some ⟨0,0,some 0⟩) (nl e.v) e.c]) (xs:=[.bool s,e.sl]) ⟨.pl rfl,.sl rfl,xb⟩ (e.big (s&&decide (0<e.v))) (V:=.agg #[.bool (s&&decide (0<e.v)),.bool false,.slice (some ⟨0,0,some 0⟩) (nl e.v) e.c]) ⟨.big rfl,xb⟩ (qo3 e.v e.c (nl e.v) 0 s _ rfl _ _ rfl (jfn _ _ _) h1.len h1.cap (qby _))
theorem qvr(s:Bool)(κ:Nm)(i:Nat){L:List Nm}{h:Hp}(hi:h[i]?=some (some (arC L)))(hκ:κ∈L):
  qae prog 104 [.bool s,.slice (some ⟨κ.b,κ.o,none⟩) (nl κ.v) κ.c] h (.agg #[.bool (s&&decide (0<κ.v)),.bool false,.slice (some ⟨κ.b,κ.o,none⟩) (nl κ.v) κ.c]) [] [i]:=
 q5e (qs:=[.pl (.bool s),.at_ κ]) [i] i (.inl hi) (.inl (yw.2 rfl)) (call104) (λ_ _=>⟨.pl rfl,.at_ hκ,xb⟩) rfl λw xs hx=>by
  rcases xs with _|⟨x,_|⟨y,_|⟨z,xs⟩⟩⟩<;>first|exact hx.elim|exact hx.2.elim|exact hx.2.2.elim|skip
  obtain⟨h1,h2,_⟩:=hx;cases h1 with
  | pl hp=>cases h2 with
   | at_ ha=>exact jp4 s κ w ha
theorem jav(n K:Nat)(h:Hp)(h0:h[K]?=some none)(hn:n<=9223372036854775808)(hp:0<n):
  qae prog 68 [xc (-(n:Int))] h (.agg #[.bool true,.bool false,.slice (some ⟨K,0,some 0⟩) (nl n) 2]) [(K,jfj true 2 n)] []:=by
 have h2:=qfx (n:=n) Q9R
 have hu:IntKind.u64.wrap (0-IntKind.u64.wrap (-(n:Int)))=(n:Int):=by rw[xn,xn];omega
 refine qak (G:=tys) [] [⟨K,1,jfj true 2 n⟩] [xc (-(n:Int))] tysOK mixed func68 Q9S (call68) xb xb xb ⟨⟨h0,rfl,by show 0<2;decide,by simp⟩,xb⟩ ⟨.plain rfl,xb⟩ ?_
 repeat' (refine Ba ?_;first|refine Q5V ?_|refine Q5R ?_|refine Bb (qo3 n 2 2 _ (decide (-(n:Int)<0)) true (by rw[xg (show -(n:Int)<0 by omega),xg hp];rfl) _ _ Q9S (qvp (by rw[hu,w32]) (by rw[hu,jlp,w32])) Q9R Q9R h2.1) ?_|refine Q64 ?_|refine Q7b ?_|refine Bc ⟨⟨xi _,qhs Q9S rfl (qvp (by rw[hu,w32]) (by rw[hu,jlp,w32]))⟩,xb⟩ ?_|refine Bc xb ?_|exact Be|fail)
theorem wOf(z:Int)(hz : -9223372036854775808<=z/\z<9223372036854775808)(w:World)(xs:List Value)(hx:All2 (AR w) [.pl (xc z)] xs):Mk prog 68 xs w z.natAbs (bzW z):=by
 obtain rfl:=q60 hx;have hn2:nl z.natAbs<=2:=(qfx (n:=z.natAbs) Q9R).2;by_cases hs:z<0
 .obtain⟨n,rfl⟩:∃n:Nat,z = -(n:Int):=⟨z.natAbs,by omega⟩;have e1:(-(n:Int)).natAbs=n:=by omega
  rw[e1] at hn2 ⊢;refine qjy (V:=λK=>.agg #[.bool true,.bool false,.slice (some ⟨K,0,some 0⟩) (nl n) 2]) (es:=[]) (call68) (λe he=>by cases he) (vs:=[xc (-(n:Int))]) (xs:=[xc (-(n:Int))]) ⟨.pl rfl,xb⟩ ⟨by decide,by decide⟩ hn2 (bzW (-(n:Int))) (λr=>?_) (jav n 0 _ rfl Q9R Q9R);rw[bzW,xg hs];simp only[den,den2,yK,xp,x8,den1,den0,jft,x7]
 .obtain⟨n,rfl⟩:∃n:Nat,z=(n:Int):=⟨z.natAbs,by omega⟩;have e1:((n:Int)).natAbs=n:=by omega
  rw[e1] at hn2 ⊢;refine qjy (V:=λK=>.agg #[.bool false,.bool false,.slice (some ⟨K,0,some 0⟩) (nl n) 2]) (es:=[]) (call68) (λe he=>by cases he) (vs:=[xc (n:Int)]) (xs:=[xc (n:Int)]) ⟨.pl rfl,xb⟩ ⟨by decide,by decide⟩ hn2 (bzW (n:Int)) (λr=>?_) (jr9 n 0 _ rfl Q9R);rw[bzW,xf hs];simp only[den,den2,yK,xp,x8,den1,den0,jft,x7]
theorem jer(v m i:Nat)(s r:Bool)(hr:r=(!s&&decide (0<v)))(o:Chunk)(h:Hp)(hi:h[i]?=some (some o))(hin:jfk o m v)(hl:nl v<=m)(hm:m<=31):
  qae prog 134 [.agg #[.bool s,.bool false,.slice (some ⟨i,0,some 0⟩) (nl v) m]] h (.agg #[.bool r,.bool false,.slice (some ⟨i,0,some 0⟩) (nl v) m]) [] [i]:=by
 refine qak (G:=tys) [⟨i,_,jfj false m v,⟨false,0,[]⟩⟩] [] [.agg #[.bool s,.bool false,.slice (some ⟨0,0,some 0⟩) (nl v) m]] tysOK mixed func134 Q9S (call134) ⟨hi,xb⟩ Q8J Q9X xb ⟨.agg ⟨.plain rfl,.plain rfl,.slice rfl,xb⟩,xb⟩ ?_
 repeat' (refine Ba ?_;first|refine Q5V ?_|refine Q5R ?_|refine Bb (qo3 v m (nl v) _ (!s) r hr _ _ Q9S (jfn _ _ _) hl hm (qby v)) ?_|refine Q7b ?_|refine Bc xb ?_|exact Be|fail)
def ji7(z:Int):Int:=if z<0 then -1 else if z=0 then 0 else 1
theorem jes(z:Int)(v b o c:Nat)(hv:v=z.natAbs)(w:World):xa 33 #[.agg #[.bool (decide (z<0)),.bool false,.slice (some ⟨b,o,none⟩) (nl v) c]] w (xc (ji7 z)):=by
 refine qac (G:=tys) w tysOK mixed func33 Q9S Q9S Q9S ?_;subst hv;rcases Int.lt_trichotomy z 0 with h|h|h
 .have e1:ji7 z = -1:=by unfold ji7;rw[if_pos h]
  have e2:nl z.natAbs≠0:=λe=>by have:=nl0 e;omega
  exact Q1m
 .have e1:ji7 z=0:=by unfold ji7;rw[if_neg Q9R,if_pos h]
  have e2:nl z.natAbs=0:=by rw[h];exact qed
  exact Q1m
 .have e1:ji7 z=1:=by unfold ji7;rw[if_neg Q9R,if_neg Q9R]
  have e2:nl z.natAbs≠0:=λe=>by have:=nl0 e;omega
  exact Q1m
theorem q62(z:Int)(v b o c:Nat)(hv:v=z.natAbs)(h:Hp):qae prog 33 [.agg #[.bool (decide (z<0)),.bool false,.slice (some ⟨b,o,none⟩) (nl v) c]] h (xc (ji7 z)) [] []:=qai rfl rfl (call33 _) (jes z v b o c hv)
theorem jaw(x y:Int):((decide (x<0) != decide (y<0))&&decide (0<x.natAbs*y.natAbs))=decide (x*y<0):=by
 rcases Int.lt_trichotomy x 0 with h|h|h<;>rcases Int.lt_trichotomy y 0 with k|k|k
 all_goals first
  | (subst h;simp;done)
  | (subst k;simp;done)
  | (
    have h1:0<x.natAbs*y.natAbs:=zy Q9R Q9R
    rw[xg h1,zg]
    first
     | (rw[xg h,xg k,xf (by have:=Int.mul_pos_of_neg_of_neg h k;omega)];rfl)
     | (rw[xg h,xf (by omega:¬ y<0),xg (Int.mul_neg_of_neg_of_pos h k)];rfl)
     | (rw[xf (by omega:¬ x<0),xg k,xg (Int.mul_neg_of_pos_of_neg h k)];rfl)
     | (rw[xf (by omega:¬ x<0),xf (by omega:¬ y<0),xf (by have:=Int.mul_pos h k;omega)];rfl))
theorem jq3(x y:Int)(hb:nl x.natAbs+nl y.natAbs<=31)(w:World)(xs:List Value)(hx:All2 (AR w) [bz x,bz y] xs):Mk prog 103 xs w (x*y).natAbs (bzW (x*y)):=by
 obtain⟨e,e',rfl,h1,v1,h2,v2⟩:=qs9 hx;have hm:(x*y).natAbs=e.v*e'.v:=by rw[v1,v2];exact y5 x y
 refine qfy (es:=[e,e']) (vs:=[.agg #[.bool (decide (x<0)),.bool false,.slice (some ⟨0,0,some 0⟩) (nl e.v) e.c],.agg #[.bool (decide (y<0)),.bool false,.slice (some ⟨1,0,some 0⟩) (nl e'.v) e'.c]]) (xs:=[e.big (decide (x<0)),e'.big (decide (y<0))]) w tysOK mixed func103 Q9S (qh1 h1 h2) ⟨.big rfl,.big rfl,xb⟩ (λ_=>rfl) ?_;refine Q0s ?_;refine Q5g ?_;refine Bt [0,1,2,3,4,5,6,7,8] [(9,[10,11])] Q9W ?_;refine Q0s ?_;refine qee [0,1,5] _ Q9W (λh₂ hh=>qkh 5 Q8X (e.v*e'.v) Nm.sl (call135) (qs:=[.sl e.v,.sl e'.v]) ⟨.sl Q8v,.sl Q8m,xb⟩ (λ_=>rfl) (jeq e.v e'.v (by rw[v1,v2];exact hb))) λv ms hR=>?_
 obtain⟨κ,hκ,rfl,rfl⟩:=hR;refine⟨by simp,?_⟩;have hsg:((decide (x<0) != decide (y<0))&&decide (0<κ.v))=decide (x*y<0):=by rw[hκ,v1,v2,jaw]
 repeat' (refine Ba ?_;first|refine Q5V ?_|refine Q5T ?_|refine Q5U ?_|refine Q7t ?_|refine Q6G ?_|refine N.endM κ 5 (hκ.trans hm.symm) (by rw[hsg]) Q9S Q8a|fail)
theorem jp5(a b:Nat)(i j m q:Nat)(h:Hp){o o2:Chunk}(hi:h[i]?=some (some o))(hin:jfk o m a)(hj:h[j]?=some (some o2))(hjn:jfk o2 q b)(hl:nl a<=m)(hm:m<=31)(hl2:nl b<=q)(hq:q<=31):
  qae prog 161 [.slice (some ⟨i,0,some 0⟩) (nl a) m,.slice (some ⟨j,0,some 0⟩) (nl b) q] h (xc (jh0 a b)) [] [i,j]:=jr8 a b m q i j o o2 h hi hin hj hjn hl Q9R hl2 Q9R
theorem jsa(x y:Int)(a b:Nat)(hxa:a=x.natAbs)(hyb:b=y.natAbs)(ha:nl a<=30)(hb:nl b<=30)(w:World)(xs:List Value)(hx:All2 (AR w) [.big (decide (x<0)) a,.big (decide (y<0)) b] xs):Mk prog 133 xs w (x+y).natAbs (bzW (x+y)):=by
 obtain⟨e,e',rfl,h1,v1,h2,v2⟩:=qs9 hx;have q1:=h1.cap;have q2:=h2.cap;refine qfy (es:=[e,e']) (vs:=[.agg #[.bool (decide (x<0)),.bool false,.slice (some ⟨0,0,some 0⟩) (nl e.v) e.c],.agg #[.bool (decide (y<0)),.bool false,.slice (some ⟨1,0,some 0⟩) (nl e'.v) e'.c]]) (xs:=[e.big (decide (x<0)),e'.big (decide (y<0))]) w tysOK mixed func133 Q9S (qh1 h1 h2) ⟨.big rfl,.big rfl,xb⟩ (λ_=>rfl) ?_;refine Q0s ?_;by_cases hs:decide (x<0)=decide (y<0)
 .refine Bg (by rw[hs];simp) ?_;refine Q3p ?_;refine qee [0,1,5] _ Q9W (λh₂ hh=>qkh 5 Q8X (e.v+e'.v) Nm.sl (call160) (qs:=[.sl e.v,.sl e'.v]) ⟨.sl Q8v,.sl Q8m,xb⟩ (λ_=>rfl) (jp3 e.v e'.v (by rw[v1];exact ha) (by rw[v2];exact hb))) λv ms hR=>?_
  obtain⟨κ,hκ,rfl,rfl⟩:=hR;refine⟨by simp,?_⟩;have hsg:(decide (x<0)&&decide (0<κ.v))=decide (x+y<0):=by
   rw[hκ,v1,v2,hxa,hyb];exact Q3d
  have hv:e.v+e'.v=(x+y).natAbs:=by rw[v1,v2,hxa,hyb];rw[decide_eq_decide] at hs;omega
  repeat' (refine Ba ?_;first|refine Q5V ?_|refine Q5T ?_|refine Q5U ?_|refine Q7t ?_|refine Q6G ?_|refine N.endM κ 5 (hκ.trans hv) (by rw[hsg]) Q9S Q8a|fail)
 .refine Bf (by simpa using hs) ?_;refine Ba ?_;refine Bb (jp5 e.v e'.v 0 1 e.c e'.c _ Q9S (jfn _ _ _) Q9S (jfn _ _ _) h1.len h1.cap h2.len h2.cap) ?_;refine Q0s ?_;by_cases hle:e'.v<=e.v
  .refine Bg (by rw[xh];unfold jh0;rw[if_neg Q9R];split<;>decide) ?_;refine Q3p ?_;refine qee [0,1,5] _ Q9W (λh₂ hh=>qkh 5 Q8X (e.v-e'.v) Nm.sl (call162) (qs:=[.sl e.v,.sl e'.v]) ⟨.sl Q8v,.sl Q8m,xb⟩ (λ_=>rfl) (q61 e.v e'.v hle)) λv ms hR=>?_
   obtain⟨κ,hκ,rfl,rfl⟩:=hR;refine⟨by simp,?_⟩;have hsg:(decide (x<0)&&decide (0<κ.v))=decide (x+y<0):=by
    rw[hκ];rw[v1,v2,hxa,hyb] at hle ⊢;exact Q3d
   have hv:e.v-e'.v=(x+y).natAbs:=by rw[v1,v2,hxa,hyb] at hle ⊢;rw[decide_eq_decide] at hs;omega
   repeat' (refine Ba ?_;first|refine Q5V ?_|refine Q5T ?_|refine Q5U ?_|refine Q7t ?_|refine Q6G ?_|refine N.endM κ 5 (hκ.trans hv) (by rw[hsg]) Q9S Q8a|fail)
  .refine Bf (by rw[xm];unfold jh0;rw[if_pos Q9R];decide) ?_;refine Q3p ?_;refine qee [0,1,5] _ Q9W (λh₂ hh=>qkh 5 Q8X (e'.v-e.v) Nm.sl (call162) (qs:=[.sl e'.v,.sl e.v]) ⟨.sl Q8m,.sl Q8v,xb⟩ (λ_=>rfl) (q61 e'.v e.v Q9R)) λv ms hR=>?_
   obtain⟨κ,hκ,rfl,rfl⟩:=hR;refine⟨by simp,?_⟩;have hsg:(decide (y<0)&&decide (0<κ.v))=decide (x+y<0):=by
    rw[hκ];rw[v1,v2,hxa,hyb] at hle ⊢;exact Q3d
   have hv:e'.v-e.v=(x+y).natAbs:=by rw[v1,v2,hxa,hyb] at hle ⊢;rw[decide_eq_decide] at hs;omega
   repeat' (refine Ba ?_;first|refine Q5V ?_|refine Q5T ?_|refine Q5U ?_|refine Q7t ?_|refine Q6G ?_|refine N.endM κ 5 (hκ.trans hv) (by rw[hsg]) Q9S Q8a|fail)
theorem jsb(x y:Int)(a b:Nat)(hxa:a=x.natAbs)(hyb:b=y.natAbs)(ha:nl a<=30)(hb:nl b<=30)(w:World)(xs:List Value)(hx:All2 (AR w) [.big (decide (x<0)) a,.big (decide (y<0)) b] xs):Mk prog 102 xs w (x-y).natAbs (bzW (x-y)):=by
 obtain⟨e,e',rfl,h1,v1,h2,v2⟩:=qs9 hx;have q1:=h1.cap;have q2:=h2.cap;have hng:decide (-y<0)=(!decide (y<0)&&decide (0<e'.v)):=by
  rw[v2,hyb,Bool.eq_iff_iff,xo,decide_eq_true_iff,decide_eq_true_iff,zr,xm];omega
 rw[Int.sub_eq_add_neg];refine qfy (es:=[e,e']) (vs:=[.agg #[.bool (decide (x<0)),.bool false,.slice (some ⟨0,0,some 0⟩) (nl e.v) e.c],.agg #[.bool (decide (y<0)),.bool false,.slice (some ⟨1,0,some 0⟩) (nl e'.v) e'.c]]) (xs:=[e.big (decide (x<0)),e'.big (decide (y<0))]) w tysOK mixed func102 Q9S (qh1 h1 h2) ⟨.big rfl,.big rfl,xb⟩ (λ_=>rfl) ?_;refine Q0s ?_;refine Q5g ?_;refine Bt [0,1,2] [(3,[4])] Q9W ?_;repeat' (refine Ba ?_;first|refine Q5V ?_|refine Q5T ?_|refine Q5U ?_|refine Bb (jer e'.v e'.c 1 (decide (y<0)) (decide (-y<0)) hng _ _ Q9S (jfn _ _ _) h2.len h2.cap) ?_|fail)
 refine Ba ?_;refine qee [0,1,9] _ Q9W (λh₂ hh=>qkh 9 ((hh 9 Qa2).trans rfl) (x + -y).natAbs (bzW (x + -y)) (call133) (qs:=[.big (decide (x<0)) e.v,.big (decide (-y<0)) e'.v]) ⟨.big Q8v,.big Q8m,xb⟩ (λ_=>rfl) (jsa x (-y) e.v e'.v (by rw[v1,hxa]) (by rw[v2,hyb,yP]) (by rw[v1];exact ha) (by rw[v2];exact hb))) λv ms hR=>?_
 obtain⟨κ,hκ,rfl,rfl⟩:=hR;refine⟨by simp,?_⟩;repeat' (refine Ba ?_;first|refine Q5V ?_|refine Q5T ?_|refine Q5U ?_|refine Q6G ?_|refine N.endM κ 9 hκ rfl Q9S Q8a|fail)
theorem jp6(a b d:Int)(had:nl a.natAbs+nl d.natAbs<=30)(hbb:nl b.natAbs+nl b.natAbs<=30)(w:World)(xs:List Value)(hx:All2 (AR w) [bz a,bz b,bz d] xs):Mk prog 67 xs w (a*d-b*b).natAbs (bzW (a*d-b*b)):=by
 obtain⟨e,e',e'',rfl,h1,v1,h2,v2,h3,v3⟩:=jau hx;have n1:nl (a*d).natAbs<=30:=by rw[y5];exact xH (nl_le.2 (qo4 _ _)) had
 have n2:nl (b*b).natAbs<=30:=by rw[y5];exact xH (nl_le.2 (qo4 _ _)) hbb
 refine qfy (es:=[e,e',e'']) (vs:=[.agg #[.bool (decide (a<0)),.bool false,.slice (some ⟨0,0,some 0⟩) (nl e.v) e.c],.agg #[.bool (decide (b<0)),.bool false,.slice (some ⟨1,0,some 0⟩) (nl e'.v) e'.c],.agg #[.bool (decide (d<0)),.bool false,.slice (some ⟨2,0,some 0⟩) (nl e''.v) e''.c]]) (xs:=[e.big (decide (a<0)),e'.big (decide (b<0)),e''.big (decide (d<0))]) w tysOK mixed func67 Q9S (q5g h1 h2 h3) ⟨.big rfl,.big rfl,.big rfl,xb⟩ (λ_=>rfl) ?_;refine Q0s ?_;refine Q5g ?_;refine Bt [0,1,3,4] [(2,[]),(5,[]),(6,[7])] Q9W ?_;refine Q0s ?_;refine qee [0,2,7] _ Q9W (λh₂ hh=>qkh 7 ((hh 7 Qa2).trans rfl) (a*d).natAbs (bzW (a*d)) (call103) (qs:=[.big (decide (a<0)) e.v,.big (decide (d<0)) e''.v]) ⟨.big Q8v,.big (.ch Q8R (jfn _ _ _) h3.len h3.cap),xb⟩ (λ_=>rfl) (by rw[v1,v3];exact jq3 a d Q9R)) λv ms hR=>?_
 obtain⟨κ,hκ,rfl,rfl⟩:=hR;refine⟨by simp,?_⟩;repeat' (refine Ba ?_;first|refine Q5V ?_|refine Q5T ?_|refine Q5U ?_|fail)
 refine Ba ?_;refine qee [1,7] _ Q9W (λh₂ hh=>qrp 7 ((hh 7 Qa2).trans rfl) (b*b).natAbs (bzW (b*b)) (call103) (qs:=[.big (decide (b<0)) e'.v,.big (decide (b<0)) e'.v]) ⟨.big Q8m,.big Q8m,xb⟩ (λ_=>rfl) (by rw[v2];exact jq3 b b Q9R)) λv ms hR=>?_
 obtain⟨κ',hκ',rfl,rfl⟩:=hR;refine⟨by simp,?_⟩;repeat' (refine Ba ?_;first|refine Q5V ?_|refine Q5T ?_|refine Q5U ?_|fail)
 refine Ba ?_;refine qee [7] _ Q9W (λh₂ hh=>qrp 7 ((hh 7 Qa2).trans rfl) (a*d-b*b).natAbs (bzW (a*d-b*b)) (call102) (qs:=[.big (decide (a*d<0)) κ.v,.big (decide (b*b<0)) κ'.v]) ⟨.big (.ar Qa2),.big (.ar Qa2),xb⟩ (λ_=>rfl) (jsb (a*d) (b*b) κ.v κ'.v hκ hκ' (by rw[hκ];exact n1) (by rw[hκ'];exact n2))) λv ms hR=>?_
 obtain⟨κ3,hκ3,rfl,rfl⟩:=hR;refine⟨by simp,?_⟩;repeat' (refine Ba ?_;first|refine Q5V ?_|refine Q5T ?_|refine Q5U ?_|refine Q6G ?_|refine N.endM κ3 7 hκ3 rfl Q9S Qa2|fail)
theorem jsc(a b d:Int)(ha : -9223372036854775808<=a/\a<9223372036854775808)(hb : -9223372036854775808<=b/\b<9223372036854775808)(hd : -9223372036854775808<=d/\d<9223372036854775808)(w:World)(xs:List Value)(hx:All2 (AR w) [.pl (.agg #[xc a,xc b,xc d])] xs):Mk prog 34 xs w (a*d-b*b).natAbs (bzW (a*d-b*b)):=by
 obtain rfl:=q60 hx;have n1:nl a.natAbs<=2:=(qfx (n:=a.natAbs) Q9R).2;have n2:nl b.natAbs<=2:=(qfx (n:=b.natAbs) Q9R).2;have n3:nl d.natAbs<=2:=(qfx (n:=d.natAbs) Q9R).2;refine qfy (es:=[]) (vs:=[.agg #[xc a,xc b,xc d]]) (xs:=[.agg #[xc a,xc b,xc d]]) w tysOK mixed func34 Q9S (λe he=>by cases he) ⟨.pl rfl,xb⟩ (λ_=>rfl) ?_;refine Q0s ?_;refine Q5g ?_;refine Bt [0,1,3,4,6,7] [(2,[]),(5,[]),(8,[]),(9,[10])] Q9W ?_;refine Q0s ?_;refine qee [2] _ Q9W (λh₂ hh=>qkh 2 Q8R a.natAbs (bzW a) (call68) (qs:=[.pl (xc a)]) ⟨.pl rfl,xb⟩ (λ_=>rfl) (wOf a ha)) λv ms hR=>?_
 obtain⟨κ1,hκ1,rfl,rfl⟩:=hR;refine⟨by simp,?_⟩;repeat' (refine Ba ?_;first|refine Q5V ?_|refine Q5T ?_|refine Q5U ?_|fail)
 refine Ba ?_;refine qee [2] _ Q9W (λh₂ hh=>qrp 2 Q8R b.natAbs (bzW b) (call68) (qs:=[.pl (xc b)]) ⟨.pl rfl,xb⟩ (λ_=>rfl) (wOf b hb)) λv ms hR=>?_
 obtain⟨κ2,hκ2,rfl,rfl⟩:=hR;refine⟨by simp,?_⟩;repeat' (refine Ba ?_;first|refine Q5V ?_|refine Q5T ?_|refine Q5U ?_|fail)
 refine Ba ?_;refine qee [2] _ Q9W (λh₂ hh=>qrp 2 Q8R d.natAbs (bzW d) (call68) (qs:=[.pl (xc d)]) ⟨.pl rfl,xb⟩ (λ_=>rfl) (wOf d hd)) λv ms hR=>?_
 obtain⟨κ3,hκ3,rfl,rfl⟩:=hR;refine⟨by simp,?_⟩;repeat' (refine Ba ?_;first|refine Q5V ?_|refine Q5T ?_|refine Q5U ?_|fail)
 refine Ba ?_;refine qee [2] _ Q9W (λh₂ hh=>qrp 2 Q8R (a*d-b*b).natAbs (bzW (a*d-b*b)) (call67) (qs:=[.big (decide (a<0)) κ1.v,.big (decide (b<0)) κ2.v,.big (decide (d<0)) κ3.v]) ⟨.big (.ar Qa2),.big (.ar Qa2),.big (.ar Qa2),xb⟩ (λ_=>rfl) (by rw[hκ1,hκ2,hκ3];exact jp6 a b d Q9R Q9R)) λv ms hR=>?_
 obtain⟨κ4,hκ4,rfl,rfl⟩:=hR;refine⟨by simp,?_⟩;repeat' (refine Ba ?_;first|refine Q5V ?_|refine Q5T ?_|refine Q5U ?_|refine Q6G ?_|refine N.endM κ4 2 hκ4 rfl Q9S Qa2|fail)
theorem q1r(n m:Int)(hm:0<=m/\m<=1152921504606846976)(w:World):xa 32 #[xc n,xc m] w (.bool (decide (-m<=n/\n<=m))):=by
 have hw:=je5 (0-m) Q9R Q9R;refine qac (G:=tys) w tysOK mixed func32 Q9S Q9S Q9S ?_;repeat' (refine Ba ?_;first|refine Q5V ?_|refine Q5R ?_|with_reducible refine Bj (λhb=>?_) (λhb=>?_)|fail)
 all_goals try rw[hw] at *
 all_goals
  refine jf7 ?_
  simp only[xh,xm,xG,false_iff,true_iff,iff_true,iff_false,reduceCtorEq,yj,xI,yk,xZ] at *
  omega
theorem qen(n m:Int)(hm:0<=m/\m<=1152921504606846976)(h:Hp):qae prog 32 [xc n,xc m] h (.bool (decide (-m<=n/\n<=m))) [] []:=qai rfl rfl (call32 _) (q1r n m hm)
theorem qta(x y:Int)(w:World):xa 31 #[.agg #[xc x,xc y]] w (.bool (decide (qa1 4194304 x y))):=by
 refine qac (G:=tys) w tysOK mixed func31 Q9S Q9S Q9S ?_;repeat' (refine Ba ?_;first|refine Q5V ?_|refine Q5R ?_|refine Bb (qen _ _ Q9V _) ?_|with_reducible refine Bj (λhb=>?_) (λhb=>?_)|fail)
 all_goals
  refine jf7 ?_
  simp only[xh,xm,xG,false_iff,true_iff,iff_true,iff_false,reduceCtorEq,yj,xI,yk,xZ] at *
  try simp only[qa1] at *
  omega
theorem qdh(x y:Int)(h:Hp):qae prog 31 [.agg #[xc x,xc y]] h (.bool (decide (qa1 4194304 x y))) [] []:=qai rfl rfl (call31 _) (qta x y)
theorem jax(s:Int)(w:World):xa 52 #[xc s] w (.bool (decide (0<=s/\s<=1000000))):=by
 refine qac (G:=tys) w tysOK mixed func52 Q9S Q9S Q9S ?_;exact Q0P
theorem qjf(s:Int)(h:Hp):qae prog 52 [xc s] h (.bool (decide (0<=s/\s<=1000000))) [] []:=qai rfl rfl (call52 _) (jax s)
theorem q5h(z:Int):decide (ji7 z > 0)=decide (0<z):=by
 unfold ji7;split
 .rw[xf Q9V,xf Q9R]
 .split
  .rw[xf Q9V,xf Q9R]
  .rw[xg Q9V,xg Q9R]
theorem jay(x y a b d:Int)(w:World):xa 8 #[.agg #[xc x,xc y,xc a,xc b,xc d]] w (.bool (decide (mayP x y a b d))):=by
 by_cases hr:qa1 4194304 x y/\(1<=a/\a<=70368744177664)/\(1<=d/\d<=70368744177664)/\(-70368744177664<=b/\b<=70368744177664)
 .obtain⟨p1,⟨p2,p3⟩,⟨p4,p5⟩,p6,p7⟩:=hr;have he:decide (mayP x y a b d)=decide (ji7 (a*d-b*b) > 0):=by
   rw[q5h,decide_eq_decide];unfold mayP;exact⟨λh=>h.2.2.2.2,λh=>⟨p1,⟨p2,p3⟩,⟨p4,p5⟩,⟨p6,p7⟩,h⟩⟩
  rw[he];refine qac (G:=tys) w tysOK mixed func8 Q9S Q9S Q9S ?_;repeat' (refine Ba ?_;first|refine Q5V ?_|refine Q5R ?_|refine Q7u ?_|refine Q6P ?_|fail)
  refine Ba ?_;refine Bh (qkh 2 Q9S (a*d-b*b).natAbs (bzW (a*d-b*b)) (call34) (qs:=[.pl (.agg #[xc a,xc b,xc d])]) ⟨.pl rfl,xb⟩ (λ_=>rfl) (jsc a b d ⟨by omega,by omega⟩ ⟨by omega,by omega⟩ ⟨by omega,by omega⟩)) λv ms hR=>?_
  obtain⟨κ,hκ,rfl,rfl⟩:=hR;repeat' (refine Ba ?_;first|refine Q5V ?_|refine Q5R ?_|refine Q7u ?_|refine Q6P ?_|fail)
  all_goals rfl
 .have he:decide (mayP x y a b d)=false:=by
   rw[xm];intro h;unfold mayP at h;exact hr ⟨h.1,h.2.1,h.2.2.1,h.2.2.2.1⟩
  rw[he];refine qac (G:=tys) w tysOK mixed func8 Q9S Q9S Q9S ?_;by_cases q1:qa1 4194304 x y
  .by_cases q2:1<=a
   .by_cases q3:a<=70368744177664
    .by_cases q4:1<=d
     .by_cases q5:d<=70368744177664
      .have q6:¬ (-70368744177664<=b/\b<=70368744177664):=λh=>hr ⟨q1,⟨q2,q3⟩,⟨q4,q5⟩,h⟩
       exact Q0y
      .exact Q0y
     .exact Q0y
    .exact Q0y
   .exact Q0y
  .exact Q0y
theorem jlr(x y a b d:Int)(h:Hp):qae prog 8 [.agg #[xc x,xc y,xc a,xc b,xc d]] h (.bool (decide (mayP x y a b d))) [] []:=qai rfl rfl (call8 _) (jay x y a b d)
open Go Go.RowKit Sx
theorem jet(n:Int)(w:World):xa 50 #[xc n] w (.bool (decide (0<=n/\n<64))):=by
 refine qac (G:=tys) w tysOK mixed func50 Q9S Q9U Q9T ?_;exact Q0n
theorem jp7(n:Int)(h:Hp):qae prog 50 [xc n] h (.bool (decide (0<=n/\n<64))) [] []:=qai rfl rfl (call50 _) (jet n)
theorem q5i(n:Int)(w:World):xa 53 #[xc n] w (.bool (decide (0<=n/\n<=70368744177664))):=by
 refine qac (G:=tys) w tysOK mixed func53 Q9S Q9U Q9T ?_;exact Q0n
theorem ql9(n:Int)(h:Hp):qae prog 53 [xc n] h (.bool (decide (0<=n/\n<=70368744177664))) [] []:=qai rfl rfl (call53 _) (q5i n)
theorem q5j(n:Int)(w:World):xa 54 #[xc n] w (.bool (decide (0<=n/\n<=4294967295))):=by
 refine qac (G:=tys) w tysOK mixed func54 Q9S Q9U Q9T ?_;exact Q0n
theorem qma(n:Int)(h:Hp):qae prog 54 [xc n] h (.bool (decide (0<=n/\n<=4294967295))) [] []:=qai rfl rfl (call54 _) (q5j n)
theorem jaz(n:Int)(w:World):xa 51 #[xc n] w (.bool (decide (0<=n/\n<=65535))):=by
 refine qac (G:=tys) w tysOK mixed func51 Q9S Q9U Q9T ?_;exact Q0n
theorem qjg(n:Int)(h:Hp):qae prog 51 [xc n] h (.bool (decide (0<=n/\n<=65535))) [] []:=qai rfl rfl (call51 _) (jaz n)
theorem qmb(x y:Operand)(k s b q st a0 a1 a2 a3 a4 a5 a6 a7 a8 a9 b0 b1 b2 b3 b4 b5 b6 b7 b8 b9:Int):BinIs prog .eql 36 x y (frF k s b q st a0 a1 a2 a3 a4 a5 a6 a7 a8 a9) (frF k s b q st b0 b1 b2 b3 b4 b5 b6 b7 b8 b9) (.bool (decide (a0=b0/\a1=b1/\a2=b2/\a3=b3/\a4=b4/\a5=b5/\a6=b6/\a7=b7/\a8=b8/\a9=b9))):=
 ⟨rfl,rfl,rfl,λw=>by
  go_simp
  by_cases h0:a0=b0;rotate_left
  .simp[h0]
  by_cases h1:a1=b1;rotate_left
  .simp[h0,h1]
  by_cases h2:a2=b2;rotate_left
  .simp[h0,h1,h2]
  by_cases h3:a3=b3;rotate_left
  .simp[h0,h1,h2,h3]
  by_cases h4:a4=b4;rotate_left
  .simp[h0,h1,h2,h3,h4]
  by_cases h5:a5=b5;rotate_left
  .simp[h0,h1,h2,h3,h4,h5]
  by_cases h6:a6=b6;rotate_left
  .simp[h0,h1,h2,h3,h4,h5,h6]
  by_cases h7:a7=b7;rotate_left
  .simp[h0,h1,h2,h3,h4,h5,h6,h7]
  by_cases h8:a8=b8;rotate_left
  .simp[h0,h1,h2,h3,h4,h5,h6,h7,h8]
  by_cases h9:a9=b9;rotate_left
  .simp[h0,h1,h2,h3,h4,h5,h6,h7,h8,h9]
  simp[h0,h1,h2,h3,h4,h5,h6,h7,h8,h9]⟩
theorem jq4{p:Prop}[Decidable p](h:p):(!decide p)=false:=by rw[xg h];rfl
theorem jsd{p:Prop}[Decidable p](h:¬ p):(!decide p)=true:=by rw[xf h];rfl
theorem jse(s b q st ds t1 t2 wh wn x y a c d:Int)(w:World):xa 12 #[frF 1 s b q st ds t1 t2 wh wn x y a c d] w (.bool (decide (Frm.may ⟨1,s,b,q,st,ds,t1,t2,wh,wn,x,y,a,c,d⟩))):=by
 rw[show(decide (Frm.may ⟨1,s,b,q,st,ds,t1,t2,wh,wn,x,y,a,c,d⟩))=decide ((0<=s/\s<64)/\(0<=b/\b<=65535)/\(0<=q/\q<=65535)/\(0<=st/\st<=1000000)/\ds=0/\t1=0/\t2=0/\wh=0/\wn=0/\x=0/\y=0/\a=0/\c=0/\d=0) from decide_eq_decide.2 ⟨λh=>⟨h.2.1.1,h.2.1.2.1,h.2.1.2.2.1,h.2.1.2.2.2,h.2.2.1,h.2.2.2.1,h.2.2.2.2.1,h.2.2.2.2.2.1,h.2.2.2.2.2.2.1,h.2.2.2.2.2.2.2.1,h.2.2.2.2.2.2.2.2.1,h.2.2.2.2.2.2.2.2.2.1,h.2.2.2.2.2.2.2.2.2.2.1,h.2.2.2.2.2.2.2.2.2.2.2⟩,λh=>⟨xb,⟨h.1,h.2.1,h.2.2.1,h.2.2.2.1⟩,⟨h.2.2.2.2.1,h.2.2.2.2.2.1,h.2.2.2.2.2.2.1,h.2.2.2.2.2.2.2.1,h.2.2.2.2.2.2.2.2.1,h.2.2.2.2.2.2.2.2.2.1,h.2.2.2.2.2.2.2.2.2.2.1,h.2.2.2.2.2.2.2.2.2.2.2.1,h.2.2.2.2.2.2.2.2.2.2.2.2.1,h.2.2.2.2.2.2.2.2.2.2.2.2.2⟩⟩⟩];exact Q0k
theorem jsf(s b q st ds t1 t2 wh wn x y a c d:Int)(w:World):xa 12 #[frF 7 s b q st ds t1 t2 wh wn x y a c d] w (.bool (decide (Frm.may ⟨7,s,b,q,st,ds,t1,t2,wh,wn,x,y,a,c,d⟩))):=by
 rw[show(decide (Frm.may ⟨7,s,b,q,st,ds,t1,t2,wh,wn,x,y,a,c,d⟩))=decide ((0<=s/\s<64)/\(0<=b/\b<=65535)/\(0<=q/\q<=65535)/\(0<=st/\st<=1000000)/\ds=0/\t1=0/\t2=0/\wh=0/\wn=0/\x=0/\y=0/\a=0/\c=0/\d=0) from decide_eq_decide.2 ⟨λh=>⟨h.2.1.1,h.2.1.2.1,h.2.1.2.2.1,h.2.1.2.2.2,h.2.2.1,h.2.2.2.1,h.2.2.2.2.1,h.2.2.2.2.2.1,h.2.2.2.2.2.2.1,h.2.2.2.2.2.2.2.1,h.2.2.2.2.2.2.2.2.1,h.2.2.2.2.2.2.2.2.2.1,h.2.2.2.2.2.2.2.2.2.2.1,h.2.2.2.2.2.2.2.2.2.2.2⟩,λh=>⟨xb,⟨h.1,h.2.1,h.2.2.1,h.2.2.2.1⟩,⟨h.2.2.2.2.1,h.2.2.2.2.2.1,h.2.2.2.2.2.2.1,h.2.2.2.2.2.2.2.1,h.2.2.2.2.2.2.2.2.1,h.2.2.2.2.2.2.2.2.2.1,h.2.2.2.2.2.2.2.2.2.2.1,h.2.2.2.2.2.2.2.2.2.2.2.1,h.2.2.2.2.2.2.2.2.2.2.2.2.1,h.2.2.2.2.2.2.2.2.2.2.2.2.2⟩⟩⟩];exact Q0k
theorem jsg(s b q st ds t1 t2 wh wn x y a c d:Int)(w:World):xa 12 #[frF 2 s b q st ds t1 t2 wh wn x y a c d] w (.bool (decide (Frm.may ⟨2,s,b,q,st,ds,t1,t2,wh,wn,x,y,a,c,d⟩))):=by
 rw[show(decide (Frm.may ⟨2,s,b,q,st,ds,t1,t2,wh,wn,x,y,a,c,d⟩))=decide ((0<=s/\s<64)/\(0<=b/\b<=65535)/\(0<=q/\q<=65535)/\(0<=st/\st<=1000000)/\(0<=ds/\ds<64)/\¬ ds=s/\t1=0/\t2=0/\wh=0/\wn=0/\x=0/\y=0/\a=0/\c=0/\d=0) from decide_eq_decide.2 ⟨λh=>⟨h.2.1.1,h.2.1.2.1,h.2.1.2.2.1,h.2.1.2.2.2,h.1.1,h.1.2,h.2.2.2.1,h.2.2.2.2.1,h.2.2.2.2.2.1,h.2.2.2.2.2.2.1,h.2.2.2.2.2.2.2.1,h.2.2.2.2.2.2.2.2.1,h.2.2.2.2.2.2.2.2.2.1,h.2.2.2.2.2.2.2.2.2.2.1,h.2.2.2.2.2.2.2.2.2.2.2⟩,λh=>⟨⟨h.2.2.2.2.1,h.2.2.2.2.2.1⟩,⟨h.1,h.2.1,h.2.2.1,h.2.2.2.1⟩,⟨rfl,h.2.2.2.2.2.2.1,h.2.2.2.2.2.2.2.1,h.2.2.2.2.2.2.2.2.1,h.2.2.2.2.2.2.2.2.2.1,h.2.2.2.2.2.2.2.2.2.2.1,h.2.2.2.2.2.2.2.2.2.2.2.1,h.2.2.2.2.2.2.2.2.2.2.2.2.1,h.2.2.2.2.2.2.2.2.2.2.2.2.2.1,h.2.2.2.2.2.2.2.2.2.2.2.2.2.2⟩⟩⟩];exact Q0k
theorem jsh(s b q st ds t1 t2 wh wn x y a c d:Int)(w:World):xa 12 #[frF 3 s b q st ds t1 t2 wh wn x y a c d] w (.bool (decide (Frm.may ⟨3,s,b,q,st,ds,t1,t2,wh,wn,x,y,a,c,d⟩))):=by
 rw[show(decide (Frm.may ⟨3,s,b,q,st,ds,t1,t2,wh,wn,x,y,a,c,d⟩))=decide ((0<=s/\s<64)/\(0<=b/\b<=65535)/\(0<=q/\q<=65535)/\(0<=st/\st<=1000000)/\(0<=ds/\ds<64)/\¬ ds=s/\(0<=t1/\t1<=4294967295)/\t2=0/\wh=0/\wn=0/\x=0/\y=0/\a=0/\c=0/\d=0) from decide_eq_decide.2 ⟨λh=>⟨h.2.1.1,h.2.1.2.1,h.2.1.2.2.1,h.2.1.2.2.2,h.1.1,h.1.2.1,h.1.2.2,h.2.2.2.2.1,h.2.2.2.2.2.1,h.2.2.2.2.2.2.1,h.2.2.2.2.2.2.2.1,h.2.2.2.2.2.2.2.2.1,h.2.2.2.2.2.2.2.2.2.1,h.2.2.2.2.2.2.2.2.2.2.1,h.2.2.2.2.2.2.2.2.2.2.2⟩,λh=>⟨⟨h.2.2.2.2.1,h.2.2.2.2.2.1,h.2.2.2.2.2.2.1⟩,⟨h.1,h.2.1,h.2.2.1,h.2.2.2.1⟩,⟨rfl,rfl,h.2.2.2.2.2.2.2.1,h.2.2.2.2.2.2.2.2.1,h.2.2.2.2.2.2.2.2.2.1,h.2.2.2.2.2.2.2.2.2.2.1,h.2.2.2.2.2.2.2.2.2.2.2.1,h.2.2.2.2.2.2.2.2.2.2.2.2.1,h.2.2.2.2.2.2.2.2.2.2.2.2.2.1,h.2.2.2.2.2.2.2.2.2.2.2.2.2.2⟩⟩⟩];exact Q0k
theorem jsi(s b q st ds t1 t2 wh wn x y a c d:Int)(w:World):xa 12 #[frF 4 s b q st ds t1 t2 wh wn x y a c d] w (.bool (decide (Frm.may ⟨4,s,b,q,st,ds,t1,t2,wh,wn,x,y,a,c,d⟩))):=by
 rw[show(decide (Frm.may ⟨4,s,b,q,st,ds,t1,t2,wh,wn,x,y,a,c,d⟩))=decide ((0<=s/\s<64)/\(0<=b/\b<=65535)/\(0<=q/\q<=65535)/\(0<=st/\st<=1000000)/\(0<=ds/\ds<64)/\¬ ds=s/\(0<=t1/\t1<=70368744177664)/\(0<=t2/\t2<=70368744177664)/\(0<=wn/\wn<=4294967295)/\wh=0/\x=0/\y=0/\a=0/\c=0/\d=0) from decide_eq_decide.2 ⟨λh=>⟨h.2.1.1,h.2.1.2.1,h.2.1.2.2.1,h.2.1.2.2.2,h.1.1,h.1.2.1,h.1.2.2.1,h.1.2.2.2.1,h.1.2.2.2.2,h.2.2.2.2.2.1,h.2.2.2.2.2.2.2.1,h.2.2.2.2.2.2.2.2.1,h.2.2.2.2.2.2.2.2.2.1,h.2.2.2.2.2.2.2.2.2.2.1,h.2.2.2.2.2.2.2.2.2.2.2⟩,λh=>⟨⟨h.2.2.2.2.1,h.2.2.2.2.2.1,h.2.2.2.2.2.2.1,h.2.2.2.2.2.2.2.1,h.2.2.2.2.2.2.2.2.1⟩,⟨h.1,h.2.1,h.2.2.1,h.2.2.2.1⟩,⟨rfl,rfl,rfl,h.2.2.2.2.2.2.2.2.2.1,rfl,h.2.2.2.2.2.2.2.2.2.2.1,h.2.2.2.2.2.2.2.2.2.2.2.1,h.2.2.2.2.2.2.2.2.2.2.2.2.1,h.2.2.2.2.2.2.2.2.2.2.2.2.2.1,h.2.2.2.2.2.2.2.2.2.2.2.2.2.2⟩⟩⟩];exact Q0k
theorem jsj(s b q st ds t1 t2 wh wn x y a c d:Int)(hm:mayP x y a c d)(w:World):xa 12 #[frF 5 s b q st ds t1 t2 wh wn x y a c d] w (.bool (decide (Frm.may ⟨5,s,b,q,st,ds,t1,t2,wh,wn,x,y,a,c,d⟩))):=by
 rw[show(decide (Frm.may ⟨5,s,b,q,st,ds,t1,t2,wh,wn,x,y,a,c,d⟩))=decide ((0<=s/\s<64)/\(0<=b/\b<=65535)/\(0<=q/\q<=65535)/\(0<=st/\st<=1000000)/\ds=0/\t1=0/\t2=0/\wh=0/\wn=0) from decide_eq_decide.2 ⟨λh=>⟨h.2.1.1,h.2.1.2.1,h.2.1.2.2.1,h.2.1.2.2.2,h.2.2.1,h.2.2.2.1,h.2.2.2.2.1,h.2.2.2.2.2.1,h.2.2.2.2.2.2.1⟩,λh=>⟨hm,⟨h.1,h.2.1,h.2.2.1,h.2.2.2.1⟩,⟨h.2.2.2.2.1,h.2.2.2.2.2.1,h.2.2.2.2.2.2.1,h.2.2.2.2.2.2.2.1,h.2.2.2.2.2.2.2.2,rfl,rfl,rfl,rfl,rfl⟩⟩⟩];exact Q1d
theorem jsk(s b q st ds t1 t2 wh wn x y a c d:Int)(hm:¬ mayP x y a c d)(w:World):xa 12 #[frF 5 s b q st ds t1 t2 wh wn x y a c d] w (.bool false):=Q1H
theorem jsl(s b q st ds t1 t2 wh wn x y a c d:Int)(hm:mayP x y a c d)(w:World):xa 12 #[frF 6 s b q st ds t1 t2 wh wn x y a c d] w (.bool (decide (Frm.may ⟨6,s,b,q,st,ds,t1,t2,wh,wn,x,y,a,c,d⟩))):=by
 rw[show(decide (Frm.may ⟨6,s,b,q,st,ds,t1,t2,wh,wn,x,y,a,c,d⟩))=decide ((0<=s/\s<64)/\(0<=b/\b<=65535)/\(0<=q/\q<=65535)/\(0<=st/\st<=1000000)/\(0<=wh/\wh<64)/\¬ wh=s/\(0<=wn)/\(wn<=st)/\ds=0/\t1=0/\t2=0) from decide_eq_decide.2 ⟨λh=>⟨h.2.1.1,h.2.1.2.1,h.2.1.2.2.1,h.2.1.2.2.2,h.1.1,h.1.2.1,h.1.2.2.1.1,h.1.2.2.1.2,h.2.2.1,h.2.2.2.1,h.2.2.2.2.1⟩,λh=>⟨⟨h.2.2.2.2.1,h.2.2.2.2.2.1,⟨h.2.2.2.2.2.2.1,h.2.2.2.2.2.2.2.1⟩,hm⟩,⟨h.1,h.2.1,h.2.2.1,h.2.2.2.1⟩,⟨h.2.2.2.2.2.2.2.2.1,h.2.2.2.2.2.2.2.2.2.1,h.2.2.2.2.2.2.2.2.2.2,rfl,rfl,rfl,rfl,rfl,rfl,rfl⟩⟩⟩];exact Q1d
theorem jsm(s b q st ds t1 t2 wh wn x y a c d:Int)(hm:¬ mayP x y a c d)(w:World):xa 12 #[frF 6 s b q st ds t1 t2 wh wn x y a c d] w (.bool false):=Q1H
theorem jsn(k s b q st ds t1 t2 wh wn x y a c d:Int)(hk:¬ (1<=k/\k<=7))(w:World):xa 12 #[frF k s b q st ds t1 t2 wh wn x y a c d] w (.bool false):=by
 by_cases h1:k<1;all_goals
  refine qac (G:=tys) w tysOK mixed func12 Q9S Q9S Q9S ?_
  repeat' (refine Ba ?_;first|refine Q5P ?_|refine Q6P ?_|refine Q6L ?_|fail)
  all_goals rfl
theorem qrq(f:Frm)(w:World):xa 12 #[fmV f] w (.bool (decide f.may)):=by
 obtain⟨k,s,b,q,st,ds,t1,t2,wh,wn,x,y,a,c,d⟩:=f;by_cases hk:1<=k/\k<=7;rotate_left
 .rw[xf (show ¬ Frm.may ⟨k,s,b,q,st,ds,t1,t2,wh,wn,x,y,a,c,d⟩ from λh=>by
   have:=h.1;unfold Frm.own at this;simp only at this;rw[if_neg Q9R,if_neg Q9R,if_neg Q9R,if_neg Q9R,if_neg Q9R,if_neg Q9R,if_neg Q9R] at this;exact this)]
  exact jsn k s b q st ds t1 t2 wh wn x y a c d hk w
 have hc:k=1\/k=2\/k=3\/k=4\/k=5\/k=6\/k=7:=by omega
 rcases hc with rfl|rfl|rfl|rfl|rfl|rfl|rfl
 .exact jse s b q st ds t1 t2 wh wn x y a c d w
 .exact jsg s b q st ds t1 t2 wh wn x y a c d w
 .exact jsh s b q st ds t1 t2 wh wn x y a c d w
 .exact jsi s b q st ds t1 t2 wh wn x y a c d w
 .by_cases hm:mayP x y a c d
  .exact jsj s b q st ds t1 t2 wh wn x y a c d hm w
  .rw[xf (show ¬ Frm.may ⟨5,s,b,q,st,ds,t1,t2,wh,wn,x,y,a,c,d⟩ from λh=>hm h.1)];exact jsk s b q st ds t1 t2 wh wn x y a c d hm w
 .by_cases hm:mayP x y a c d
  .exact jsl s b q st ds t1 t2 wh wn x y a c d hm w
  .rw[xf (show ¬ Frm.may ⟨6,s,b,q,st,ds,t1,t2,wh,wn,x,y,a,c,d⟩ from λh=>hm h.1.2.2.2)];exact jsm s b q st ds t1 t2 wh wn x y a c d hm w
 .exact jsf s b q st ds t1 t2 wh wn x y a c d w
theorem qnb(f:Frm)(h:Hp):qae prog 12 [fmV f] h (.bool (decide f.may)) [] []:=qai rfl rfl (call12 _) (qrq f)
variable{bs:List Int}
theorem jeu{r:Rw}(hr:BufOK r bs)(hA:RwAt w r):r.o=0/\ByAt w ⟨r.b,r.c,bs⟩:=by
 obtain⟨q4,cur,z,hh,hz,hs⟩:=hA.own hr.w;have hl:r.xs.length=bs.length:=by rw[hr.xs,yT]
 refine⟨q4,hA.lt,λj hj=>?_,λj hj=>?_⟩
 .have hj:j<bs.length:=hj;have h1:=hA.cell j Q9R;rw[q4,xq,hr.xs,xW,xt hj] at h1;show w.cell? ⟨r.b,j,none⟩=some (.int .u8 (bs.getD j 0));rw[h1,xD,xt hj];rfl
 .have hj:j<bs.length:=hj;have hc:=hA.cap;have hn:=hr.n;have hk:=hr.k;rw[hk,x9] at hs;exact(qvc hh hz j Q9R).2
theorem jev{r:Rw}(hr:BufOK r bs)(h0:r.o=0):(some r.sl:Option Sl)=(By.mk r.b r.c bs).s:=by
 show(some ⟨r.b,r.o,r.n,r.c,none⟩:Option Sl)=some ⟨r.b,0,bs.length,r.c,none⟩;rw[h0,hr.n]
open Go Go.RowKit Sx
theorem jp8(n:Int)(w:Nat):∀k,∀c∈beK n w k,0<=c/\c<256:=by
 intro k
 induction k with
 | zero=>intro c h;cases h
 | succ k ih=>
  intro c h;rw[beK] at h;rcases yM.1 h with h|h
  .exact ih c h
  .obtain rfl:=yw.1 h;unfold qkb;omega
structure FrIn(f:Frm):Prop where
 k:0<=f.k/\f.k<256
 s:0<=f.s/\f.s<256
 ds:0<=f.ds/\f.ds<256
 wh:0<=f.wh/\f.wh<256
 b:0<=f.b/\f.b<=65535
 q:0<=f.q/\f.q<=65535
 st:Fi f.st
 t1:Fi f.t1
 t2:Fi f.t2
 wn:Fi f.wn
 x : -2147483648<=f.x/\f.x<2147483648
 y : -2147483648<=f.y/\f.y<2147483648
 a:Fi f.a
 c:Fi f.c
 d:Fi f.d
abbrev encF(f:Frm):List Int:=jkg f.k f.s f.b f.q f.st f.ds f.t1 f.t2 f.wh f.wn f.x f.y f.a f.c f.d
theorem q1s(k:Nat)(hk:k<256)(w:World):xa 76 #[xc (k:Int)] w (.int .u32 (jj4 k)):=by
 refine qac (G:=tys) w tysOK mixed func76 Q9S Q9S Q9S ?_;refine Q1a ?_;refine Bo (α:=Nat) (λm=>m<=8) (λm=>8-m) (λm=>[(3,.int .u32 (jj3 (IntKind.u32.wrap (k:Int)) m)),(6,xc (m:Int))]) (λm=>[]) 0 Q9V ?_ ?_
 .exact Q0B
 intro m hm;have hm:m<=8:=hm;by_cases hm8:m<8
 .exact Q2n
 .obtain rfl:m=8:=by omega
  repeat' (refine Ba ?_;first|refine Q5P ?_|refine Q6P ?_|refine Q6L ?_|fail)
  all_goals rfl
theorem q5k(k:Int)(hk:0<=k/\k<256)(h:Hp):qae prog 76 [xc k] h (.int .u32 (jj4 k.toNat)) [] []:=by
 obtain⟨n,rfl⟩:=yX hk.1;exact qai rfl rfl (call76 _) (q1s n Q9R)
theorem qwz(a b:Int):jgu a b=jgu b a:=by unfold jgu;rw[BitVec.xor_comm]
theorem jew[ZW](rb:Rw)(R:List Rw)(bs:List Int)(hB:BufOK rb bs)(hl:bs.length<=1000)(hb:rb∈R)(i:Nat)(h:Hp)(hi:h[i]?=some (some (rvC R))):
  qae prog 45 [uV (some rb.sl)] h (.int .u32 (sumN bs)) [(i,rvC R)] []:=by
 refine qar (G:=tys) (λ_:Unit=>True) (λ_=>_) [⟨i,rvC R,rvC R,rvC R⟩] [] [uV (some rb.sl)] tysOK mixed func45 Q9S (call45) ⟨hi,xb⟩ Q8f Q9X Q81 xb ⟨.quo,xb⟩ Opens.same ?_
 rintro⟨⟩ -
 have hbn:=hB.n
 have hlb:((uN (some rb.sl):Nat):Int)=((bs.length:Nat):Int):=by show((rb.n:Nat):Int)=_;rw[hbn]
 repeat' (refine Ba ?_;first|refine Q5P ?_|refine Q7h ?_|fail)
 refine Ba ?_
 refine Bq (α:=Nat) (λk=>k<=bs.length) (λk=>bs.length-k) (λk=>[(3,.int .u32 (sumK bs k)),(8,xc (k:Int))]) (λk=>[]) 0 [(0,0)] (xi _) ?_ ?_
 .exact Q0S
 intro k hk
 have hk:k<=bs.length:=hk
 by_cases hkl:k<bs.length
 .obtain⟨c,hc⟩:∃c,bs[k]?=some c:=⟨_,xt hkl⟩;have hs:=qri hc;generalize sumK bs k=s0 at hs;obtain⟨x0,x1⟩:=q03 (IntKind.u8.wrap s0) c;have es:sumK bs (k+1)=jgu (jj4 (xor8 (IntKind.u8.wrap s0) c).toNat) (jhx s0 8):=hs.trans (qwz _ _);have ex:IntKind.i64.wrap (xor8 (IntKind.u8.wrap s0) c)=(xor8 (IntKind.u8.wrap s0) c):=je5 _ Q9R Q9R;have hent:∀h,qae prog 76 [xc (IntKind.i64.wrap (xor8 (IntKind.u8.wrap s0) c))] h (.int .u32 (jj4 (xor8 (IntKind.u8.wrap s0) c).toNat)) [] []:=λh=>by rw[ex];exact q5k _ ⟨x0,x1⟩ h
  have ek:((k+1:Nat):Int)=IntKind.i64.wrap ((k:Int)+1):=by rw[je5 _ Q9R Q9R];rfl
  repeat' (refine Ba ?_;first|refine Q5P ?_|refine Bb (hent _) ?_|refine Br (qec (sz:=1) (g:=rb.o+k) tysOK rfl rfl (λρ=>by rw[qd6];rfl) rfl QaA Q9R (by show((k:Nat):Int)<((rb.n:Nat):Int);omega) (by show rb.o+((k:Nat):Int).toNat*1=_;rw[y9,x9])) ?_|refine Br (qve (i:=0) rb (v:=.int .u8 c) k tysOK rfl rfl rfl Q9S hb QaA rfl (by rw[hB.xs,xW,hc];rfl)) ?_|refine Q6P ?_|fail)
  exact Q4u
 .obtain rfl:k=bs.length:=by omega
  repeat' (refine Ba ?_;first|refine Q5P ?_|refine N.notU ?_|refine Q6L ?_|refine Bl ?_|refine Q6o ?_|refine Bc Q8s ?_|refine Q61 ?_|exact Be|fail)
theorem q5l(n:Int)(m:Nat)(hm:m<=7):qkb (IntKind.u64.wrap n) m=qkb n m:=by
 have hc:m=0\/m=1\/m=2\/m=3\/m=4\/m=5\/m=6\/m=7:=by omega
 unfold qkb;rw[xn];rcases hc with rfl|rfl|rfl|rfl|rfl|rfl|rfl|rfl<;>simp<;>omega
theorem q1t(n:Int)(m:Nat)(hm:m<=7):IntKind.u8.wrap ((IntKind.u64.wrap n).fdiv (2^sh ((8*m:Nat):Int) IntKind.u64))=qkb n m:=by
 have h1:sh ((8*m:Nat):Int) IntKind.u64=8*m:=by
  unfold sh;rw[y9];show min (8*m) 64=8*m;omega
 have h2:(2:Int)^(8*m)=256^m:=by rw[Int.pow_mul];rfl
 rw[h1,h2,wrap_u8,zF _ (Int.pow_nonneg Q9V)];exact q5l n m hm
theorem qgd[ZW](r:Rw)(R:List Rw)(bs:List Int)(hr:BufOK r bs)(n:Int)(w:Nat)(hw:1<=w/\w<=8)(hl:bs.length<=1000)(i:Nat)(h:Hp)(hi:h[i]?=some (some (rvC (r::R)))):
  CallAll prog 44 [uV (some r.sl),.int .u64 (IntKind.u64.wrap n),xc (w:Nat)] h (λv ms=>∃r':Rw,BufOK r' (bs++be n w)/\v=uV (some r'.sl)/\ms=[(i,rvC (r'::R))]):=by
 have key:=qa7 (G:=tys) (h:=h) (vs:=[uV (some r.sl),.int .u64 (IntKind.u64.wrap n),.int .i64 (w:Nat)]) (λ_:Unit=>True) (λ_=>_) (α:=Rw) (λκ=>BufOK κ (bs++be n w)) (λκ=>uV (some κ.sl)) [⟨i,rvC (r::R),rvC (r::R),rvC (r::R)⟩] (λκ=>[rvC (κ::R)]) (λκ=>[]) [uV (some r.sl),.int .u64 (IntKind.u64.wrap n),.int .i64 (w:Nat)] tysOK mixed func44 Q9S (call44) ⟨hi,xb⟩ Q8f (λκ _=>Q8f) Q9X Q81 (λκ _=>trivial) ⟨.quo,.plain rfl,.plain rfl,xb⟩ Opens.same ?_
 .exact Q2K
 rintro⟨⟩ -
 have e0:IntKind.i64.wrap ((w:Int)-1)=(w:Int)-1:=je5 _ Q9R Q9R
 have ek:(w:Int)-1-((0:Nat):Int)=IntKind.i64.wrap ((w:Int)-1):=by rw[e0];omega
 repeat' (refine Ba ?_;first|refine Q5P ?_|fail)
 refine Ba ?_
 refine Bq (α:=Nat×Rw) (λq=>q.1<=w/\BufOK q.2 (bs++beK n w q.1)) (λq=>w-q.1) (λq=>[(0,uV (some q.2.sl)),(7,xc ((w:Int)-1-(q.1:Int)))]) (λq=>[(0,rvC (q.2::R))]) (0,r) [(0,0)] ⟨xi _,by show BufOK r (bs++[]);rw[zv];exact hr⟩ ?_ ?_
 .exact Q2q
 rintro⟨k,q⟩ ⟨hk,hq⟩
 have hk:k<=w:=hk
 have hq:BufOK q (bs++beK n w k):=hq
 have hql:(bs++beK n w k).length=bs.length+k:=by rw[xv,qsz]
 by_cases hkw:k<w
 .have e8:IntKind.u64.wrap (IntKind.i64.wrap (8*((w:Int)-1-(k:Int))))=((8*(w-1-k):Nat):Int):=by rw[je5 _ Q9R Q9R,xn];omega
  have ev:=q1t n (w-1-k) Q9R;rw[<-e8] at ev;have ek:(w:Int)-1-((k+1:Nat):Int)=IntKind.i64.wrap ((w:Int)-1-(k:Int)-1):=by rw[je5 _ Q9R Q9R];omega
  refine Q2G ?_;refine jmu q R (bs++beK n w k) [_] 0 [_] hq rfl rfl (λρ=>qd6 _ ρ) Q9S Q9k (by rw[hql];show _+1<=_;omega) λq' hq'=>?_
  rw[ev,List.append_assoc] at hq';refine Q2G ?_;refine Bm (α:=Nat×Rw) (k+1,q') [(0,0)] ⟨⟨hkw,hq'⟩,by show w-(k+1)<w-k;omega⟩ ?_;exact Q2q
 .obtain rfl:k=w:=by omega
  repeat' (refine Ba ?_;first|refine Q5P ?_|refine Q6L ?_|refine Bl ?_|refine Bn q ⟨hq,?_⟩|refine Bc (.one .quo) ?_|refine Bc Q8s ?_|refine Q61 ?_|exact Be|fail)
theorem b0(n:Int):qkb n 0=IntKind.u8.wrap n:=by unfold qkb;rw[wrap_u8];simp
theorem qw0(k s b q st ds t1 t2 wh wn x y a c d:Int)(hM:∀h,qae prog 12 [frF k s b q st ds t1 t2 wh wn x y a c d] h (.bool true) [] [])(W:World)(hW:0<W.heap.size):
  Calls prog 10 #[frF k s b q st ds t1 t2 wh wn x y a c d] W λe w'=>∃r:Rw,BufOK r (jkg k s b q st ds t1 t2 wh wn x y a c d)/\e=.returned (den (λ_=>(0,0)) (.tuple #[uV (some r.sl),xc 0]))/\Below W.heap.size W w'/\∀q∈[r],RwAt w' q/\W.heap.size<=q.b:=by
 letI:ZW:=⟨some W⟩
 refine q00 (vs:=[frF k s b q st ds t1 t2 wh wn x y a c d]) W rfl (fun(r:Rw)=>.tuple #[uV (some r.sl),xc 0]) (λr=>[r]) (λr=>BufOK r (jkg k s b q st ds t1 t2 wh wn x y a c d)) tysOK mixed func10 Q9S hW rfl (fun(κ:Rw) r r'=>by
  have e:∀r,den2 r (uV (some κ.sl))=uR (some κ.sl):=λr=>qot (some κ.sl) r
  have e2:∀r,den r (.tuple #[uV (some κ.sl),xc 0])=.tuple #[uR (some κ.sl),xc 0]:=λr=>by
   show Value.tuple (#[uV (some κ.sl),xc 0].map (den2 r))=_;simp only[yK,xp,x8,e];rfl
  rw[e2,e2]) ?_
 repeat' (refine Ba ?_;first|refine Q5S ?_|refine Q5U ?_|refine Bb (hM _) ?_|refine Q66 ?_|fail)
 refine Ba ?_
 refine Bv ?_
 obtain⟨ei,h1,h2,h3⟩:=q4m
 refine qwr (ei:=ei) (z:=.int .u8 0) (out:=[.int .u8 97,.int .u8 108,.int .u8 105,.int .u8 49]) (R:=[]) (i:=0) rfl (by exact⟨_,_,rfl,⟨rfl,rfl⟩,_,_,rfl,⟨rfl,rfl⟩,_,_,rfl,⟨rfl,rfl⟩,_,_,rfl,⟨rfl,rfl⟩,rfl⟩) underlying37 h1 h3 rfl Qbf Qb4 Qb4 Qbf Qbf rfl Qb4 Q9S λbb=>?_
 have hr0:BufOK ⟨true,5,ei.size,bb,0,4,4,[.int .u8 97,.int .u8 108,.int .u8 105,.int .u8 49]⟩ [97,108,105,49]:=⟨rfl,rfl,h2,rfl,rfl⟩
 generalize hg0:(⟨true,5,ei.size,bb,0,4,4,[.int .u8 97,.int .u8 108,.int .u8 105,.int .u8 49]⟩:Rw)=r0 at hr0
 have hg1:(some ⟨bb,0,4,4,none⟩:Option Sl)=some r0.sl:=by rw[<-hg0]
 rw[hg1]
 repeat' (refine Ba ?_;first|refine Q5P ?_|refine Br (q9j (i:=0) r0 rfl rfl underlying37 underlying5 hr0.w Q8a Q9S) ?_|fail)
 refine Ba ?_
 refine jmu r0 [] _ [_,_,_,_] 0 [_] hr0 rfl rfl (λρ=>qd6 _ ρ) Q9S Q9k (by show 4+4<=_;omega) λr1 hr1=>?_
 rw[<-b0 k,<-b0 s,<-b0 ds,<-b0 wh] at hr1
 repeat' (refine Ba ?_;first|refine Q5S ?_|refine Q5U ?_|fail)
 refine Ba ?_
 refine Bv ?_
 refine Bt [0,1,2,3,5,6,7] [(4,[]),(8,[9])] Q9W ?_
 repeat' (refine Ba ?_;first|refine Q5P ?_|fail)
 refine Ba ?_
 refine qow [0] _ Qam (λh₂ hh=>qgd r1 [] _ hr1 b 2 Q9V Qa1 0 h₂ Q8w) λv ms hM_=>?_
 obtain⟨r2,hr2,rfl,rfl⟩:=hM_
 refine⟨by simp,?_⟩
 repeat' (refine Ba ?_;first|refine Q5P ?_|fail)
 refine Ba ?_
 refine qow [0] _ Qam (λh₂ hh=>qgd r2 [] _ hr2 q 2 Q9V Qa1 0 h₂ Q8w) λv ms hM_=>?_
 obtain⟨r3,hr3,rfl,rfl⟩:=hM_
 refine⟨by simp,?_⟩
 repeat' (refine Ba ?_;first|refine Q5S ?_|refine Q5U ?_|refine Bp 5 ?_|refine Q71 ?_|refine Q6c ?_|fail)
 refine Ba ?_
 refine Bh (qgd r3 [] _ hr3 st 8 Q9V Qa1 0 _ Q9S) λv ms hR=>?_
 obtain⟨r4,hr4,rfl,rfl⟩:=hR
 repeat' (refine Ba ?_;first|refine Q5S ?_|refine Q5U ?_|refine Q6f ?_|refine Q66 ?_|refine Q6c ?_|fail)
 refine Ba ?_
 refine Bh (qgd r4 [] _ hr4 t1 8 Q9V Qa1 0 _ Q9S) λv ms hR=>?_
 obtain⟨r5,hr5,rfl,rfl⟩:=hR
 repeat' (refine Ba ?_;first|refine Q5S ?_|refine Q5U ?_|refine Q6f ?_|refine Q66 ?_|refine Q6c ?_|fail)
 refine Ba ?_
 refine Bh (qgd r5 [] _ hr5 t2 8 Q9V Qa1 0 _ Q9S) λv ms hR=>?_
 obtain⟨r6,hr6,rfl,rfl⟩:=hR
 repeat' (refine Ba ?_;first|refine Q5S ?_|refine Q5U ?_|refine Q6f ?_|refine Q66 ?_|refine Q6c ?_|fail)
 refine Ba ?_
 refine Bh (qgd r6 [] _ hr6 wn 8 Q9V Qa1 0 _ Q9S) λv ms hR=>?_
 obtain⟨r7,hr7,rfl,rfl⟩:=hR
 repeat' (refine Ba ?_;first|refine Q5S ?_|refine Q5U ?_|refine Q6f ?_|refine Q66 ?_|refine Q6c ?_|fail)
 refine Ba ?_
 refine Bv ?_
 refine Bt [0,1,2,3,4,5,7,8,9,10,11] [(6,[]),(12,[13])] Q9W ?_
 repeat' (refine Ba ?_;first|refine Q5P ?_|fail)
 refine Ba ?_
 refine qow [0] _ Qam (λh₂ hh=>qgd r7 [] _ hr7 x 4 Q9V Qa1 0 h₂ Q8w) λv ms hM_=>?_
 obtain⟨r8,hr8,rfl,rfl⟩:=hM_
 refine⟨by simp,?_⟩
 repeat' (refine Ba ?_;first|refine Q5P ?_|fail)
 refine Ba ?_
 refine qow [0] _ Qam (λh₂ hh=>qgd r8 [] _ hr8 y 4 Q9V Qa1 0 h₂ Q8w) λv ms hM_=>?_
 obtain⟨r9,hr9,rfl,rfl⟩:=hM_
 refine⟨by simp,?_⟩
 repeat' (refine Ba ?_;first|refine Q5S ?_|refine Q5U ?_|refine Bp 5 ?_|refine Q71 ?_|refine Q6c ?_|fail)
 refine Ba ?_
 refine Bh (qgd r9 [] _ hr9 a 8 Q9V Qa1 0 _ Q9S) λv ms hR=>?_
 obtain⟨r10,hr10,rfl,rfl⟩:=hR
 repeat' (refine Ba ?_;first|refine Q5P ?_|refine Q6i ?_|refine Q66 ?_|refine Q6c ?_|fail)
 refine Ba ?_
 refine Bh (qgd r10 [] _ hr10 c 8 Q9V Qa1 0 _ Q9S) λv ms hR=>?_
 obtain⟨r11,hr11,rfl,rfl⟩:=hR
 repeat' (refine Ba ?_;first|refine Q5P ?_|refine Q6i ?_|refine Q66 ?_|refine Q6c ?_|fail)
 refine Ba ?_
 refine Bh (qgd r11 [] _ hr11 d 8 Q9V Qa1 0 _ Q9S) λv ms hR=>?_
 obtain⟨r12,hr12,rfl,rfl⟩:=hR
 repeat' (refine Ba ?_;first|refine Q5P ?_|refine Q6i ?_|refine Q66 ?_|refine Q6c ?_|fail)
 have hZ:∀z,IntKind.u64.wrap (sumN z)=IntKind.u64.wrap (IntKind.i64.wrap (sumN z)):=λz=>by rw[xn,xn,yu];omega
 repeat' (refine Ba ?_;first|refine Q5P ?_|refine Bb (jew r12 [r12] _ hr12 Qa1 Q8a 0 _ Q9S) ?_|fail)
 refine Ba ?_
 rw[hZ]
 refine Bh (qgd r12 [] _ hr12 (IntKind.i64.wrap (sumN _)) 4 Q9V Qa1 0 _ Q9S) λv ms hR=>?_
 obtain⟨r13,hr13,rfl,rfl⟩:=hR
 repeat' (refine Ba ?_;first|refine Q5P ?_|fail)
 refine Ba ?_
 exact N.mk ⟨r13,hr13,rfl,rfl⟩
theorem ja0(W:World)(F:List By)(k s b q st ds t1 t2 wh wn x y a c d:Int)(hM:∀h,qae prog 12 [frF k s b q st ds t1 t2 wh wn x y a c d] h (.bool true) [] [])(i:Nat)(h:Hp)(hi:h[i]?=some (some (jfc W F))):
  CallAll prog 10 [frF k s b q st ds t1 t2 wh wn x y a c d] h λv ms=>∃e:By,e.bs=jkg k s b q st ds t1 t2 wh wn x y a c d/\e.bs.length<=e.c/\e.b∉F.map By.b/\v=.tuple #[uV e.s,xc 0]/\ms=[(i,jfc W (e::F))]:=λX ρ w xs H hxs=>by
 obtain rfl:=qhf (vs:=[frF k s b q st ds t1 t2 wh wn x y a c d]) rfl hxs
 obtain⟨S,E⟩:=H.ext
 have M:MemOK W F (ρ i) (S i) w:=E.inv i _ hi
 refine .inr ⟨call10 _ w,(qw0 k s b q st ds t1 t2 wh wn x y a c d hM w (by have:=H.lt _ _ hi;omega)).mono ?_⟩
 rintro e w' ⟨r,hr,rfl,hB,hA⟩
 obtain⟨hA,hge⟩:=hA r (yw.2 rfl)
 obtain⟨h0,hby⟩:=jeu hr hA
 obtain⟨hno,H'⟩:=q4h (e:=⟨r.b,r.c,jkg k s b q st ds t1 t2 wh wn x y a c d⟩) H hi hB hby hge
 have e:∀r2,den2 r2 (uV (some r.sl))=uR (some r.sl):=λr2=>qot (some r.sl) r2
 have e2:∀r2,den r2 (.tuple #[uV (some r.sl),xc 0])=.tuple #[uR (some r.sl),xc 0]:=λr2=>by
  show Value.tuple (#[uV (some r.sl),xc 0].map (den2 r2))=_;simp only[yK,xp,x8,e];rfl
 refine⟨_,rfl,.tuple #[uV (some r.sl),xc 0],_,ρ,⟨⟨r.b,r.c,jkg k s b q st ds t1 t2 wh wn x y a c d⟩,rfl,by show(jkg k s b q st ds t1 t2 wh wn x y a c d).length<=r.c;rw[<-hr.n];exact hA.cap,hno,by rw[jev hr h0],rfl⟩,AgreeOn.refl _ _,H',λr2 _=>?_⟩
 rw[e2,e2]
theorem ja1(W:World)(F:List By)(f:Frm)(hm:f.may)(i:Nat)(h:Hp)(hi:h[i]?=some (some (jfc W F))):
  CallAll prog 10 [fmV f] h λv ms=>∃e:By,e.bs=encF f/\e.bs.length<=e.c/\v=.tuple #[uV e.s,xc 0]/\ms=[(i,jfc W (e::F))]:=by
 refine qav (ja0 W F f.k f.s f.b f.q f.st f.ds f.t1 f.t2 f.wh f.wn f.x f.y f.a f.c f.d (λh=>by have:=qnb f h;rw[xg hm] at this;exact this) i h hi) λv ms hR=>?_
 obtain⟨e,h1,h2,_,h3,h4⟩:=hR
 exact⟨e,h1,h2,h3,h4⟩
open Go Go.RowKit Sx
theorem jex(f:Frm):∀j,j<(encF f).length->0<=(encF f).getD j 0/\(encF f).getD j 0<256:=by
 have be:∀n w,∀c∈be n w,0<=c/\c<256:=λn w=>jp8 n w w
 have app:∀{a b:List Int},(∀c∈a,0<=c/\c<256)->(∀c∈b,0<=c/\c<256)->∀c∈a++b,0<=c/\c<256:=λha hb c hc=>(yM.1 hc).elim (ha c) (hb c)
 have al:∀c∈encF f,0<=c/\c<256:=by
  unfold encF jkg jpj;repeat' (first|with_reducible refine app ?_ ?_|with_reducible exact be _ _)
  decide
 intro j hj;rw[xD,xt hj];exact al _ (zA hj)
open Go Go.RowKit Sx
section
variable{P:Program}{o:Oper}{st:St}
end
theorem ja2{W:World}{B:List By}{e:By}(h:e.bs=bs):Src W (e::B) e.s bs:=by
 subst h;exact .own (zn ..)
theorem By.cap_ok{e:By}(h:e.bs.length<=e.c):∀s,e.s=some s->s.n<=s.c:=λs hs=>by
 obtain rfl:(⟨e.b,0,e.bs.length,e.c,none⟩:Sl)=s:=Option.some.inj hs;exact h
def jly(C:Nat->Int)(id boot:Int)(e:El):NSt:=if max 2 (C 10)<e.a+e.d then jgn C id boot false 0 0 0 0 0 else jgn C id boot true e.x e.y e.a e.b e.d
theorem N.endM3{v V:Value}{st:St}{W:World}(F:List By)(h1:v=V)(h2:st.h[0]?=some (some (jfc W F))):N (v=V/\∃F,st.h[0]?=some (some (jfc W F))):=N.mk ⟨h1,F,h2⟩
theorem q1u(C:Nat->Int)(hC:ji2 C)(id boot:Int)(hid:0<=id/\id<64)(hbo:jf8 boot)(x y a b d:Int)(hm:mayP x y a b d)(K:Nat)(h:Hp)(hK:h[K]?=some none):
  qae prog 7 [cfV C,xc id,xc boot,elV x y a b d] h (xd K) [(K,ndP (jly C id boot ⟨x,y,a,b,d⟩))] []:=by
 unfold jly
 split
 .rename_i ho;exact q9b C hC id boot hid hbo x y a b d hm ho K h hK
 .rename_i ho;exact qsw C hC id boot hid hbo x y a b d hm ho K h hK
variable{C:Nat->Int}
theorem q1v(hC:ji2 C){id boot:Int}(hid:0<=id/\id<64)(hbo:0<=boot/\boot<=65535){v:Bool}{x y a b d:Int}(h1:v=true->mayP x y a b d/\a+d<=max 2 (C 10))(h0:v=false->x=0/\y=0/\a=0/\b=0/\d=0):NI (jgn C id boot v x y a b d):=by
 have c9:=hC.h9;have c8:=hC.h8;have c7:=hC.h7;have c2:=hC.h2;refine⟨c2,c7,hid,hbo,xY _,⟨?_,?_⟩,⟨?_,?_⟩,⟨?_,?_⟩,⟨by show(0:Int)<=0;omega,by show(0:Int)<=1000000;omega⟩,⟨λhv=>?_,λhv=>?_⟩,⟨(q5x _).1,(q5x _).2,EAll.nil⟩,λm=>HI.o⟩
 .show 0<max 0 (min (C 9) 1000);omega
 .show max 0 (min (C 9) 1000)<=100;omega
 .show 0<=max 0 (min (C 9) 1000);omega
 .show max 0 (min (C 9) 1000)<=max 0 (min (C 9) 1000);omega
 .show 1<=max 1 (min (C 8) 1000000);omega
 .show max 1 (min (C 8) 1000000)<=1000;omega
 .obtain⟨g1,g2⟩:=h1 hv;refine⟨g1,?_⟩;show El.tr ⟨x,y,a,b,d⟩<=max 2 (C 10);rw[trf (show El.may ⟨x,y,a,b,d⟩ from g1)];exact g2
 .obtain⟨rfl,rfl,rfl,rfl,rfl⟩:=h0 hv;rfl
theorem ja3(hC:ji2 C){id boot:Int}(hid:0<=id/\id<64)(hbo:0<=boot/\boot<=65535){e:El}(he:e.may):NI (jly C id boot e):=by
 unfold jly;split
 .exact q1v hC hid hbo (λh=>by cases h) (λ_=>⟨rfl,rfl,rfl,rfl,rfl⟩)
 .rename_i ho;exact q1v hC hid hbo (λ_=>⟨he,by omega⟩) (λh=>by cases h)
theorem OL.at'{s:NSt}{now fine:Int}:∀{L:List Ou}{q:Int}{j:Nat},OL s now fine q L->j<L.length->OI s (q+j) now fine (L.getD j Ou.o)
 | [],_,_,_,h=>absurd h (yg _)
 | x::L,q,0,⟨h,_⟩,_=>by rw[Int.ofNat_zero,yA];exact h
 | x::L,q,j+1,⟨_,h⟩,hj=>by
  have:=OL.at' (j:=j) h Qa8;rw[show q+1+(j:Int)=q+((j+1:Nat):Int) by omega] at this;exact this
theorem OL.toList{s:NSt}{now fine q:Int}{o:Option Ou}(h:∀x,o=some x->OI s q now fine x):OL s now fine q o.toList:=by
 cases o with
 | none=>trivial
 | some x=>exact⟨h x rfl,xb⟩
structure StepN(s:NSt)(l now fine:Int)(s':NSt)(L:List Ou):Prop where
 ni:NI s'
 id:s'.id=s.id
 boot:s'.boot=s.boot
 C:s'.C=s.C
 bn:s'.bn=s.bn
 ol:OL s now fine s.seq L
 seq:s'.seq=s.seq+L.length
 bl:s'.bl+L.length=l
 le:L.length<=3
theorem q63(s:NSt)(ok:NI s)(hs:s.seq<65530)(now fine:Int)(ht:qbl now)(i K:Nat)(h:Hp)(hi:h[i]?=some (some (ndP s)))(hK:h[K]?=some none):
  CallAll prog 9 [xd i,xc now,xc fine] h λv ms=>∃s' L,StepN s s.bn now fine s' L/\((L=[]/\v=.slice none 0 0/\ms=[(i,ndP s')])\/∃κ:Nat,L.length<=κ/\v=.slice (some ⟨K,0,some 0⟩) L.length κ/\ms=[(i,ndP s'),(K,ouR L κ)]):=by
 obtain⟨n1,n2,n3,n4,n5,n6,n7,n8,n9,n10,n11,n12⟩:=jam ok hs now fine ht
 have hst:StepN s s.bn now fine (jfu s now fine).1 (jfu s now fine).2:=⟨n1,n3,n4,n2,n6,n9,n10,n11,n12⟩
 by_cases hd:now<s.tx
 .refine qav (qc1 (jad s (ok.tickOK hs) now fine ht hd i h hi)) λv ms hR=>?_
  obtain⟨rfl,rfl⟩:=hR;refine⟨_,_,hst,?_⟩;unfold jfu;rw[if_pos hd];exact .inl ⟨rfl,rfl,rfl⟩
 .refine qav (jae s (ok.tickOK hs) now fine (ok.T.ev now (s.C 7)).1.tin ht hd i K h hi hK) λv ms hR=>?_
  obtain⟨κ,h1,rfl,rfl⟩:=hR;refine⟨_,_,hst,.inr ⟨κ,?_⟩⟩;unfold jfu;rw[if_neg hd];exact⟨h1,rfl,rfl⟩
theorem q1w(W:World)(B:List By)(s:NSt)(u:Option Sl)(bs:List Int)(hs:Src W B u bs)(hu:∀j,j<bs.length->0<=bs.getD j 0/\bs.getD j 0<256)(hc:∀s,u=some s->s.n<=s.c)(ok:NI s)(hq:s.seq<65535)(at_ now fine:Int)(i j K:Nat)(hij:i≠j)(h:Hp)(hi:h[i]?=some (some (ndP s)))(hj:h[j]?=some (some (jfc W B)))(hK:h[K]?=some none):
  CallAll prog 11 [xd i,uV u,xc at_,xc now,xc fine] h λv ms=>∃s' L e,StepN s s.bl now fine s' L/\((L=[]/\v=.tuple #[.slice none 0 0,xc e]/\ms=[(i,ndP s'),(j,jfc W B)])\/∃κ:Nat,L.length<=κ/\v=.tuple #[.slice (some ⟨K,0,some 0⟩) L.length κ,xc e]/\ms=[(i,ndP s'),(j,jfc W B),(K,ouR L κ)]):=by
 obtain⟨n1,n2,n3⟩:=jak ok hq bs at_ now fine
 refine qav (jd8 W B s u bs hs hu hc (ok.hearOK hq) at_ now fine i j K hij h hi hj hK) λv ms hR=>?_
 generalize hearP s bs at_ now fine=r at n1 n2 n3 hR
 obtain⟨s',o,e⟩:=r
 refine⟨s',o.toList,e,⟨n1,n2.id,n2.boot,n2.C,n2.bn,OL.toList λx hx=>?_,?_,?_,?_⟩,?_⟩
 .rcases n3 with ⟨h1,_⟩|⟨y,h1,_,_,_,_,h2⟩
  .rw[show o=none from h1] at hx;cases hx
  .have e1:o=some y:=h1;rw[e1] at hx;cases hx;exact h2
 .rcases n3 with ⟨h1,h2,_⟩|⟨y,h1,_,_,h2,_⟩<;>(rw[show o=_ from h1];simp;exact h2)
 .rcases n3 with ⟨h1,_,h2⟩|⟨y,h1,_,_,_,h2,_⟩<;>(rw[show o=_ from h1];have h2:s'.bl=_:=h2;simp;omega)
 .cases o<;>simp
 .cases o with
  | none=>obtain⟨rfl,rfl⟩:=hR;exact .inl ⟨rfl,rfl,rfl⟩
  | some x=>obtain⟨κ,h1,rfl,rfl⟩:=hR;exact .inr ⟨κ,h1,rfl,rfl⟩
theorem ja4(W:World)(F:List By)(f:Frm)(hf:¬ f.may)(j:Nat)(h:Hp)(hj:h[j]?=some (some (jfc W F))):
  qae prog 10 [fmV f] h (.tuple #[uV none,xc 1]) [(j,jfc W F)] []:=by
 refine qar (G:=tys) (λ_:Unit=>True) (λ_=>_) [⟨j,jfc W F,jfc W F,jfc W F⟩] [] [fmV f] tysOK mixed func10 Q9S (call10) ⟨hj,xb⟩ ⟨Q7X,xb⟩ Q9X Q81 xb ⟨.plain rfl,xb⟩ Opens.same ?_
 rintro⟨⟩ -
 have hM:=qnb f
 rw[xf hf] at hM
 repeat' (refine Ba ?_;first|refine Q5P ?_|refine Bb (hM _) ?_|refine Q6c ?_|fail)
 refine Ba ?_
 refine Bl ?_
 repeat' (refine Ba ?_;first|refine Q5P ?_|refine Bc (.tuple ⟨.any (λ_ _=>rfl) λ_ _=>rfl,.plain rfl,xb⟩) ?_|refine Bc ⟨Q9C,xb⟩ ?_|refine Q61 ?_|exact Be|fail)
theorem jp9(W:World)(F:List By)(f:Frm)(i:Nat)(h:Hp)(hi:h[i]?=some (some (jfc W F))):
  CallAll prog 10 [fmV f] h λv ms=>∃(F':List By)(u:Option Sl)(bs:List Int)(e:Int),Src W F' u bs/\(∀j,j<bs.length->0<=bs.getD j 0/\bs.getD j 0<256)/\(∀s,u=some s->s.n<=s.c)/\(bs=encF f/\f.may/\e=0\/bs=[]/\¬ f.may/\e=1)/\v=.tuple #[uV u,xc e]/\ms=[(i,jfc W F')]:=by
 by_cases hf:f.may
 .refine qav (ja1 W F f hf i h hi) λv ms hR=>?_
  obtain⟨e,h1,h2,rfl,rfl⟩:=hR;exact⟨e::F,e.s,encF f,0,ja2 h1,jex f,By.cap_ok h2,.inl ⟨rfl,hf,rfl⟩,rfl,rfl⟩
 .refine qav (qc1 (ja4 W F f hf i h hi)) λv ms hR=>?_
  obtain⟨rfl,rfl⟩:=hR;exact⟨F,none,[],1,.nil,λj hj=>absurd hj (yg _),λs hs=>(by cases hs),.inr ⟨rfl,hf,rfl⟩,rfl,rfl⟩
theorem qki(c:Cl):∀j,j<22->Re1 ix (Chunk.f (⟨true,22,[(0,22,c.v)]⟩:Chunk) j) (Chunk.f (⟨true,22,[(0,22,c.v)]⟩:Chunk) j):=λj hj=>by
 by_cases h:j<11
 .match j,h with
  | 0,_=>exact .plain rfl
  | 1,_=>exact .plain rfl
  | 2,_=>exact .plain rfl
  | 3,_=>exact .plain rfl
  | 4,_=>exact .plain rfl
  | 5,_=>exact .plain rfl
  | 6,_=>exact .plain rfl
  | 7,_=>exact .plain rfl
  | 8,_=>exact .plain rfl
  | 9,_=>exact .plain rfl
  | 10,_=>exact .plain rfl
 by_cases h2:j=21
 .subst h2;exact .quo
 .obtain⟨k,rfl⟩:∃k,j=k+11:=⟨j-11,by omega⟩
  match k,(by omega:k<10) with
  | 0,_=>exact .plain rfl
  | 1,_=>exact .plain rfl
  | 2,_=>exact .plain rfl
  | 3,_=>exact .plain rfl
  | 4,_=>exact .plain rfl
  | 5,_=>exact .plain rfl
  | 6,_=>exact .plain rfl
  | 7,_=>exact .plain rfl
  | 8,_=>exact .plain rfl
  | 9,_=>exact .plain rfl
structure SQ where
 i:Nat
 s:NSt
 F:List By
theorem jqa(b0 o0 n0 cap:Nat)(C0:Nat->Cl)(Bs:Nat->List Int)(rt ev x y a b d:Int)(W:World)(hW:b0<W.heap.size)(hS:jp1 W b0 o0 n0 C0 Bs)(hnn:n0<=9223372036854775807):
  xa 3 #[xc rt,xc ev,elV x y a b d,.slice (some ⟨b0,o0,none⟩) n0 cap] W (.bool true):=by
 have hC:ji2 (cf6 7 5 9 2 ev rt):=qu8 7 5 9 2 ev rt
 refine q1e W tysOK mixed func3 Q9S Q9R rfl rfl ?_
 have h7:jf8 7:=⟨by decide,by decide⟩
 have hC9:=hC.h9
 have e9:max 0 (min ((cf6 7 5 9 2 ev rt) 9) 1000)=(cf6 7 5 9 2 ev rt) 9:=by omega
 by_cases hm:mayP x y a b d
 .repeat' (refine Ba ?_;first|refine Q5P ?_|refine Q7i ?_|refine Bb (qor (cf6 7 5 9 2 ev rt) hC 2 7 Q9V h7 7 _ Q9S) ?_|refine Bg (xg hm) ?_|refine Bb (q1u (cf6 7 5 9 2 ev rt) hC 2 7 Q9V h7 x y a b d hm 11 _ Q9S) ?_|fail)
  refine Ba ?_;obtain⟨sN,hN,hn1,hn2,hn3,hn4,hn5,hn6,hn7⟩:∃s,s=jly (cf6 7 5 9 2 ev rt) 2 7 ⟨x,y,a,b,d⟩/\NI s/\s.id=2/\s.boot=7/\s.seq=0/\s.C=(cf6 7 5 9 2 ev rt)/\s.bn=s.bl/\s.bn=(cf6 7 5 9 2 ev rt) 9:=⟨_,rfl,ja3 hC Q9V Q9V hm,by unfold jly;split<;>exact⟨rfl,rfl,rfl,rfl,rfl,e9⟩⟩;rw[<-hN];have e00:sN.bn-sN.bl=0:=by omega
  refine Bq (α:=SQ) (λq=>q.i<=n0/\q.i<=60/\NI q.s/\q.s.id=2/\q.s.boot=7/\q.s.seq<=3*q.i/\q.s.C=(cf6 7 5 9 2 ev rt)/\q.s.bn=(cf6 7 5 9 2 ev rt) 9) (λq=>n0-q.i) (λq=>[(11,xc q.s.seq),(12,xc (q.s.bn-q.s.bl)),(37,xc (q.i:Int))]) (λq=>[(0,jfc W q.F),(11,ndP q.s)]) ⟨0,sN,[]⟩ [(0,0),(1,1),(6,6),(7,7),(11,11)] ⟨xi _,xi _,hn1,hn2,hn3,by show sN.seq<=3*((0:Nat):Int);omega,hn5,hn7⟩ ?_ ?_
  .exact Q1R
  clear e00 hN hn1 hn2 hn3 hn4 hn5 hn6 hn7;rintro q ⟨q1,q2,q3,q4,q5,q6,q7,q8⟩;by_cases hi:q.i<n0;rotate_left
  .exact Q2t
  obtain⟨hs,hc⟩:=hS q.i hi;generalize hcc:C0 q.i=c at hs hc;have ej:((q.i+1:Nat):Int)=IntKind.i64.wrap ((q.i:Int)+1):=by rw[je5 _ Q9R Q9R];rfl
  have q0:=q3.seq;have qb:=q3.bl;have qn:=q3.bn;by_cases h60:q.i=60
  .exact Q0q
  by_cases hbig:1000<uN c.u
  .exact Q0q
  by_cases hk:c.kd=0
  .refine Q1r ?_;refine Bh (q63 q.s q3 Q9R (q.i:Int) c.fine ⟨by omega,by omega⟩ 11 13 _ Q9S Q9S) λv ms hR=>?_
   obtain⟨s',L,hst,hR⟩:=hR;have s1:=hst.seq;have s2:=hst.bl;have s3:=hst.bn;rcases hR with ⟨rfl,rfl,rfl⟩|⟨κ,hκ,rfl,rfl⟩
   .have es:s'.seq=q.s.seq:=by rw[s1];exact yA _
    have et:s'.bn-s'.bl=0:=by simp at s2;omega
    refine Q1c ?_;exact Q38
   .have es:s'.seq=q.s.seq+(L.length:Int):=s1;have et:s'.bn-s'.bl=0+(L.length:Int):=by omega
    have hlen:((L.length:Nat):Int)<=3:=by have:=hst.le;omega
    have hbl:=hst.ni.bl;refine Q01 ?_;have ek1:q.s.seq+((0:Nat):Int)=q.s.seq:=yA _;have ek2:(0:Int)+((0:Nat):Int)=(0:Int):=yA _;have ek3:((0:Nat):Int)=0:=rfl;refine Bq (α:=Nat) (λj=>j<=L.length) (λj=>L.length-j) (λj=>[(11,xc (q.s.seq+(j:Int))),(12,xc ((0:Int)+(j:Int))),(86,xc (j:Int))]) (λj=>[]) 0 [(0,0),(1,1),(6,6),(7,7),(11,11),(12,12),(13,13)] (xi _) ?_ ?_
    .exact Q0a
    clear ek1 ek2 ek3;intro j hj;have hj:j<=L.length:=hj;by_cases hlt:j<L.length
    .have hx:=OL.at' hst.ol hlt;generalize hxe:L.getD j Ou.o=x at hx;obtain⟨x1,x2,x3,x4,x5,x6⟩:=hx;have ek1:q.s.seq+((j+1:Nat):Int)=IntKind.i64.wrap (q.s.seq+(j:Int)+1):=by rw[je5 _ Q9R Q9R];omega
     have ek2:(0:Int)+((j+1:Nat):Int)=IntKind.i64.wrap ((0:Int)+(j:Int)+1):=by rw[je5 _ Q9R Q9R];omega
     have ek3:((j+1:Nat):Int)=IntKind.i64.wrap ((j:Int)+1):=by rw[je5 _ Q9R Q9R];rfl
     have hrd:∀p,p=j*16->Reads (ouR L κ) p true 16 (ouV x):=λp hp=>Q2O
     rw[show q.s.id=2 from q4] at x2;rw[show q.s.boot=7 from q5] at x3;refine Q0C ?_;refine Bm (α:=Nat) (j+1) [(0,0),(1,1),(6,6),(7,7),(11,11),(12,12),(13,13)] ⟨by show j+1<=L.length;omega,by show L.length-(j+1)<L.length-j;omega⟩ ?_;exact Q0a
    .obtain rfl:j=L.length:=by omega
     refine Q1e ?_;exact Q38
  .refine Q1p ?_;refine Bh Q9d λv ms hR=>?_
   obtain⟨F',u,bs,e,hsrc,hu8,hcap,_,rfl,rfl⟩:=hR;refine Q01 ?_;refine Bh (q1w W F' q.s u bs hsrc hu8 hcap q3 Q9R c.at_ (q.i:Int) c.fine 11 0 14 Q9V _ Q9S Q9S Q9S) λv ms hR=>?_
   obtain⟨s',L,e',hst,hR⟩:=hR;have s1:=hst.seq;have s2:=hst.bl;have s3:=hst.bn;rcases hR with ⟨rfl,rfl,rfl⟩|⟨κ,hκ,rfl,rfl⟩
   .have es:s'.seq=q.s.seq:=by rw[s1];exact yA _
    have et:s'.bn-s'.bl=q.s.bn-q.s.bl:=by simp at s2;omega
    refine Q1c ?_;exact Q39
   .have es:s'.seq=q.s.seq+(L.length:Int):=s1;have et:s'.bn-s'.bl=q.s.bn-q.s.bl+(L.length:Int):=by omega
    have hlen:((L.length:Nat):Int)<=3:=by have:=hst.le;omega
    have hbl:=hst.ni.bl;refine Q01 ?_;have ek1:q.s.seq+((0:Nat):Int)=q.s.seq:=yA _;have ek2:(q.s.bn-q.s.bl)+((0:Nat):Int)=(q.s.bn-q.s.bl):=yA _;have ek3:((0:Nat):Int)=0:=rfl;refine Bq (α:=Nat) (λj=>j<=L.length) (λj=>L.length-j) (λj=>[(11,xc (q.s.seq+(j:Int))),(12,xc ((q.s.bn-q.s.bl)+(j:Int))),(86,xc (j:Int))]) (λj=>[]) 0 [(0,0),(1,1),(6,6),(7,7),(11,11),(12,12),(13,13),(14,14)] (xi _) ?_ ?_
    .exact Q0a
    clear ek1 ek2 ek3;intro j hj;have hj:j<=L.length:=hj;by_cases hlt:j<L.length
    .have hx:=OL.at' hst.ol hlt;generalize hxe:L.getD j Ou.o=x at hx;obtain⟨x1,x2,x3,x4,x5,x6⟩:=hx;have ek1:q.s.seq+((j+1:Nat):Int)=IntKind.i64.wrap (q.s.seq+(j:Int)+1):=by rw[je5 _ Q9R Q9R];omega
     have ek2:(q.s.bn-q.s.bl)+((j+1:Nat):Int)=IntKind.i64.wrap ((q.s.bn-q.s.bl)+(j:Int)+1):=by rw[je5 _ Q9R Q9R];omega
     have ek3:((j+1:Nat):Int)=IntKind.i64.wrap ((j:Int)+1):=by rw[je5 _ Q9R Q9R];rfl
     have hrd:∀p,p=j*16->Reads (ouR L κ) p true 16 (ouV x):=λp hp=>Q2O
     rw[show q.s.id=2 from q4] at x2;rw[show q.s.boot=7 from q5] at x3;refine Q0C ?_;refine Bm (α:=Nat) (j+1) [(0,0),(1,1),(6,6),(7,7),(11,11),(12,12),(13,13),(14,14)] ⟨by show j+1<=L.length;omega,by show L.length-(j+1)<L.length-j;omega⟩ ?_;exact Q0a
    .obtain rfl:j=L.length:=by omega
     refine Q1e ?_;exact Q39
 .repeat' (refine Ba ?_;first|refine Q5P ?_|refine Q7i ?_|refine Bb (qor (cf6 7 5 9 2 ev rt) hC 2 7 Q9V h7 7 _ Q9S) ?_|refine Bf (xf hm) ?_|fail)
  refine Ba ?_;obtain⟨sN,hN,hn1,hn2,hn3,hn4,hn5,hn6,hn7⟩:∃s,s=jgn (cf6 7 5 9 2 ev rt) 2 7 false 0 0 0 0 0/\NI s/\s.id=2/\s.boot=7/\s.seq=0/\s.C=(cf6 7 5 9 2 ev rt)/\s.bn=s.bl/\s.bn=(cf6 7 5 9 2 ev rt) 9:=⟨_,rfl,q1v hC Q9V Q9V (λh=>by cases h) (λ_=>⟨rfl,rfl,rfl,rfl,rfl⟩),rfl,rfl,rfl,rfl,rfl,e9⟩;rw[<-hN];have e00:sN.bn-sN.bl=0:=by omega
  refine Bq (α:=SQ) (λq=>q.i<=n0/\q.i<=60/\NI q.s/\q.s.id=2/\q.s.boot=7/\q.s.seq<=3*q.i/\q.s.C=(cf6 7 5 9 2 ev rt)/\q.s.bn=(cf6 7 5 9 2 ev rt) 9) (λq=>n0-q.i) (λq=>[(11,xc q.s.seq),(12,xc (q.s.bn-q.s.bl)),(37,xc (q.i:Int))]) (λq=>[(0,jfc W q.F),(7,ndP q.s)]) ⟨0,sN,[]⟩ [(0,0),(1,1),(6,6),(7,7)] ⟨xi _,xi _,hn1,hn2,hn3,by show sN.seq<=3*((0:Nat):Int);omega,hn5,hn7⟩ ?_ ?_
  .exact Q1R
  clear e00 hN hn1 hn2 hn3 hn4 hn5 hn6 hn7;rintro q ⟨q1,q2,q3,q4,q5,q6,q7,q8⟩;by_cases hi:q.i<n0;rotate_left
  .exact Q2t
  obtain⟨hs,hc⟩:=hS q.i hi;generalize hcc:C0 q.i=c at hs hc;have ej:((q.i+1:Nat):Int)=IntKind.i64.wrap ((q.i:Int)+1):=by rw[je5 _ Q9R Q9R];rfl
  have q0:=q3.seq;have qb:=q3.bl;have qn:=q3.bn;by_cases h60:q.i=60
  .exact Q0q
  by_cases hbig:1000<uN c.u
  .exact Q0q
  by_cases hk:c.kd=0
  .refine Q1r ?_;refine Bh (q63 q.s q3 Q9R (q.i:Int) c.fine ⟨by omega,by omega⟩ 7 9 _ Q9S Q9S) λv ms hR=>?_
   obtain⟨s',L,hst,hR⟩:=hR;have s1:=hst.seq;have s2:=hst.bl;have s3:=hst.bn;rcases hR with ⟨rfl,rfl,rfl⟩|⟨κ,hκ,rfl,rfl⟩
   .have es:s'.seq=q.s.seq:=by rw[s1];exact yA _
    have et:s'.bn-s'.bl=0:=by simp at s2;omega
    refine Q1c ?_;exact Q3a
   .have es:s'.seq=q.s.seq+(L.length:Int):=s1;have et:s'.bn-s'.bl=0+(L.length:Int):=by omega
    have hlen:((L.length:Nat):Int)<=3:=by have:=hst.le;omega
    have hbl:=hst.ni.bl;refine Q01 ?_;have ek1:q.s.seq+((0:Nat):Int)=q.s.seq:=yA _;have ek2:(0:Int)+((0:Nat):Int)=(0:Int):=yA _;have ek3:((0:Nat):Int)=0:=rfl;refine Bq (α:=Nat) (λj=>j<=L.length) (λj=>L.length-j) (λj=>[(11,xc (q.s.seq+(j:Int))),(12,xc ((0:Int)+(j:Int))),(86,xc (j:Int))]) (λj=>[]) 0 [(0,0),(1,1),(6,6),(7,7),(8,8),(9,9)] (xi _) ?_ ?_
    .exact Q0a
    clear ek1 ek2 ek3;intro j hj;have hj:j<=L.length:=hj;by_cases hlt:j<L.length
    .have hx:=OL.at' hst.ol hlt;generalize hxe:L.getD j Ou.o=x at hx;obtain⟨x1,x2,x3,x4,x5,x6⟩:=hx;have ek1:q.s.seq+((j+1:Nat):Int)=IntKind.i64.wrap (q.s.seq+(j:Int)+1):=by rw[je5 _ Q9R Q9R];omega
     have ek2:(0:Int)+((j+1:Nat):Int)=IntKind.i64.wrap ((0:Int)+(j:Int)+1):=by rw[je5 _ Q9R Q9R];omega
     have ek3:((j+1:Nat):Int)=IntKind.i64.wrap ((j:Int)+1):=by rw[je5 _ Q9R Q9R];rfl
     have hrd:∀p,p=j*16->Reads (ouR L κ) p true 16 (ouV x):=λp hp=>Q2O
     rw[show q.s.id=2 from q4] at x2;rw[show q.s.boot=7 from q5] at x3;refine Q0C ?_;refine Bm (α:=Nat) (j+1) [(0,0),(1,1),(6,6),(7,7),(8,8),(9,9)] ⟨by show j+1<=L.length;omega,by show L.length-(j+1)<L.length-j;omega⟩ ?_;exact Q0a
    .obtain rfl:j=L.length:=by omega
     refine Q1e ?_;exact Q3a
  .refine Q1p ?_;refine Bh Q9d λv ms hR=>?_
   obtain⟨F',u,bs,e,hsrc,hu8,hcap,_,rfl,rfl⟩:=hR;refine Q01 ?_;refine Bh (q1w W F' q.s u bs hsrc hu8 hcap q3 Q9R c.at_ (q.i:Int) c.fine 7 0 10 Q9V _ Q9S Q9S Q9S) λv ms hR=>?_
   obtain⟨s',L,e',hst,hR⟩:=hR;have s1:=hst.seq;have s2:=hst.bl;have s3:=hst.bn;rcases hR with ⟨rfl,rfl,rfl⟩|⟨κ,hκ,rfl,rfl⟩
   .have es:s'.seq=q.s.seq:=by rw[s1];exact yA _
    have et:s'.bn-s'.bl=q.s.bn-q.s.bl:=by simp at s2;omega
    refine Q1c ?_;exact Q3b
   .have es:s'.seq=q.s.seq+(L.length:Int):=s1;have et:s'.bn-s'.bl=q.s.bn-q.s.bl+(L.length:Int):=by omega
    have hlen:((L.length:Nat):Int)<=3:=by have:=hst.le;omega
    have hbl:=hst.ni.bl;refine Q01 ?_;have ek1:q.s.seq+((0:Nat):Int)=q.s.seq:=yA _;have ek2:(q.s.bn-q.s.bl)+((0:Nat):Int)=(q.s.bn-q.s.bl):=yA _;have ek3:((0:Nat):Int)=0:=rfl;refine Bq (α:=Nat) (λj=>j<=L.length) (λj=>L.length-j) (λj=>[(11,xc (q.s.seq+(j:Int))),(12,xc ((q.s.bn-q.s.bl)+(j:Int))),(86,xc (j:Int))]) (λj=>[]) 0 [(0,0),(1,1),(6,6),(7,7),(8,8),(9,9),(10,10)] (xi _) ?_ ?_
    .exact Q0a
    clear ek1 ek2 ek3;intro j hj;have hj:j<=L.length:=hj;by_cases hlt:j<L.length
    .have hx:=OL.at' hst.ol hlt;generalize hxe:L.getD j Ou.o=x at hx;obtain⟨x1,x2,x3,x4,x5,x6⟩:=hx;have ek1:q.s.seq+((j+1:Nat):Int)=IntKind.i64.wrap (q.s.seq+(j:Int)+1):=by rw[je5 _ Q9R Q9R];omega
     have ek2:(q.s.bn-q.s.bl)+((j+1:Nat):Int)=IntKind.i64.wrap ((q.s.bn-q.s.bl)+(j:Int)+1):=by rw[je5 _ Q9R Q9R];omega
     have ek3:((j+1:Nat):Int)=IntKind.i64.wrap ((j:Int)+1):=by rw[je5 _ Q9R Q9R];rfl
     have hrd:∀p,p=j*16->Reads (ouR L κ) p true 16 (ouV x):=λp hp=>Q2O
     rw[show q.s.id=2 from q4] at x2;rw[show q.s.boot=7 from q5] at x3;refine Q0C ?_;refine Bm (α:=Nat) (j+1) [(0,0),(1,1),(6,6),(7,7),(8,8),(9,9),(10,10)] ⟨by show j+1<=L.length;omega,by show L.length-(j+1)<L.length-j;omega⟩ ?_;exact Q0a
    .obtain rfl:j=L.length:=by omega
     refine Q1e ?_;exact Q3b
end Go.Proofs.YtfkngpmgcimdbaaGreat
