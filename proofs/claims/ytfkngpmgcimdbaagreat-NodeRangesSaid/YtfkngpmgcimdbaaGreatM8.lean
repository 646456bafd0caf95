/-
  The walks of golden: the best weight for an ellipse and a strip.
-/
import Derived.Test.YtfkngpmgcimdbaaGreatM7
set_option linter.unusedVariables false
set_option linter.unusedSimpArgs false
set_option maxRecDepth 100000
set_option maxHeartbeats 20000000
theorem Go.Proofs.zw:type_of% @Nat.le_add_left:=@Nat.le_add_left
open Go.Proofs.Tryz
namespace Go.Proofs
section
variable {Z Y:Prop}
theorem Q07(h:Z:=by
 refine qal (G:=tys) [⟨a,_,seC true 2 1 s,seC true k m (s.ask (cutW e f) w)⟩,⟨m,_,bC s.emp,bC (s.ask (cutW e f) w).emp⟩,⟨k,_,jkl false 3 4,⟨false,0,[]⟩⟩,⟨i,_,elC false e,⟨false,0,[]⟩⟩,⟨j,_,stC false f,⟨false,0,[]⟩⟩] [] [xd 0,xc w] tysOK mixed func207 Q8I (call207) ⟨ha,hm,hk,hi,hj,xb⟩ ⟨Q8w,b_re (nlr _) _,Q6U,el_re _,st_re _,xb⟩ Q9F xb Q6E ?_
 repeat' (first|(refine Bb ?_;first|with_reducible (first|refine Ba Q8H ?_|refine Ba (qab _ _ _) ?_|refine Ba (qaa _ _) ?_|refine Bk ?_|refine Ba rfl ?_|refine Ba ⟨by kernel_rfl,by kernel_rfl⟩ ?_|refine Bj ?_|refine Bh ?_|refine Bi ?_)|refine Bc (cQC e f w s.emp hw he hf 2 1 3 4 Q8H _ _ _ _ Q8I Q8I Q8I Q8I) ?_|refine Bf h1 ?_|refine Be h1 ?_|refine Bf Q9R ?_|refine Be Q9R ?_|refine Bf (by rw[xh];assumption) ?_|refine Be (by rw[xk];assumption) ?_|refine Bf (by rw[yj];assumption) ?_|refine Be (by rw[beq_eq_false_iff_ne];assumption) ?_|refine Ba (.plain Q8I) ?_|refine Ba Q7m ?_|refine Ba xb ?_|exact Bg|fail)|refine qah Q8I ?_)):Z:=h
theorem Q09(h:Z:=by
 intro l n hok;have hn6:n<=6:=by omega
 have gw:=qdr (cutW e f) b n hn6;have gx:=jg6 (cutW e f) b n hn6;rcases hok with ⟨rfl,hn⟩|⟨rfl,hn,hmost⟩
 ·refine⟨_,rfl,?_⟩;by_cases h6:n=6
  ·subst h6;have e2:(GL.go (cutW e f) b 6).b-(GL.go (cutW e f) b 6).a=2:=by have:=gw.1;simp only[gwide] at this;omega
   exact Q1H
  ·have hn5:n<6:=by omega
   have gw1:=qdr (cutW e f) b (n+1) Q8G;have gx1:=jg6 (cutW e f) b (n+1) Q8G;have hwid:2<(GL.go (cutW e f) b n).b-(GL.go (cutW e f) b n).a:=by have:=gw.1;have:=qkh n hn5;omega
   have w1:IntKind.i64.wrap (IntKind.i64.wrap ((GL.go (cutW e f) b n).a+(GL.go (cutW e f) b n).y)-(GL.go (cutW e f) b n).x)=(GL.go (cutW e f) b n).a+(GL.go (cutW e f) b n).y-(GL.go (cutW e f) b n).x:=by rw[jdx ((GL.go (cutW e f) b n).a+(GL.go (cutW e f) b n).y) Q8G Q8G,jdx _ Q8G Q8G]
   rcases qcv ((GL.go (cutW e f) b n).fx.most (GL.go (cutW e f) b n).fy) with hm|hm
   ·exact Q1k
   ·have st:(GL.go (cutW e f) b (n+1))=(GL.go (cutW e f) b n).left (cutW e f):=by show GL.step _ _=_;unfold GL.step;rw[if_pos hm]
    by_cases heq:(GL.go (cutW e f) b n).a+(GL.go (cutW e f) b n).y-(GL.go (cutW e f) b n).x=(GL.go (cutW e f) b n).x
    ·have st2:(GL.go (cutW e f) b (n+1))=⟨(GL.go (cutW e f) b n).a,(GL.go (cutW e f) b n).y,(GL.go (cutW e f) b n).a+(GL.go (cutW e f) b n).y-(GL.go (cutW e f) b n).x,(GL.go (cutW e f) b n).x,(GL.go (cutW e f) b n).fx,(GL.go (cutW e f) b n).fx,(GL.go (cutW e f) b n).s⟩:=by rw[st];unfold GL.left;rw[if_pos heq]
     exact Q1W
    ·have st2:(GL.go (cutW e f) b (n+1))=⟨(GL.go (cutW e f) b n).a,(GL.go (cutW e f) b n).y,(GL.go (cutW e f) b n).a+(GL.go (cutW e f) b n).y-(GL.go (cutW e f) b n).x,(GL.go (cutW e f) b n).x,jep (cutW e f) ((GL.go (cutW e f) b n).a+(GL.go (cutW e f) b n).y-(GL.go (cutW e f) b n).x),(GL.go (cutW e f) b n).fx,(GL.go (cutW e f) b n).s.ask (cutW e f) ((GL.go (cutW e f) b n).a+(GL.go (cutW e f) b n).y-(GL.go (cutW e f) b n).x)⟩:=by rw[st];unfold GL.left;rw[if_neg heq]
     have hr:0<=(GL.go (cutW e f) b n).a+(GL.go (cutW e f) b n).y-(GL.go (cutW e f) b n).x/\(GL.go (cutW e f) b n).a+(GL.go (cutW e f) b n).y-(GL.go (cutW e f) b n).x<=34:=by have:=gx1.1;rw[st2] at this;exact this
     repeat' (first|(refine Bb ?_;first|with_reducible (first|refine Ba Q8H ?_|refine Ba (qab _ _ _) ?_|refine Ba (qaa _ _) ?_|refine Bk ?_|refine Ba rfl ?_|refine Ba ⟨by kernel_rfl,by kernel_rfl⟩ ?_|refine Bj ?_|refine Bh ?_|refine Bi ?_)|refine Be Q9l ?_|refine Bc (jhp _ _ _) ?_|refine Be (by rw[hm];rfl) ?_|refine Bf Q9Q ?_|refine Bc (qrc e f ((GL.go (cutW e f) b n).a+(GL.go (cutW e f) b n).y-(GL.go (cutW e f) b n).x) _ (GL.go (cutW e f) b n).s w1 hr he hf 4 1 0 2 3 Q8H _ _ _ _ Q8I Q8I Q8I Q8I Q8I) ?_)|refine qah Q8I ?_)
     exact Q1Y
 ·refine⟨_,rfl,?_⟩;have gw1:=qdr (cutW e f) b (n+1) Q8G;have gx1:=jg6 (cutW e f) b (n+1) Q8G;have w1:IntKind.i64.wrap (IntKind.i64.wrap ((GL.go (cutW e f) b n).x+(GL.go (cutW e f) b n).b)-(GL.go (cutW e f) b n).y)=(GL.go (cutW e f) b n).x+(GL.go (cutW e f) b n).b-(GL.go (cutW e f) b n).y:=by rw[jdx ((GL.go (cutW e f) b n).x+(GL.go (cutW e f) b n).b) Q8G Q8G,jdx _ Q8G Q8G]
  have st:(GL.go (cutW e f) b (n+1))=(GL.go (cutW e f) b n).right (cutW e f):=by show GL.step _ _=_;unfold GL.step;rw[if_neg (by rw[hmost];decide)]
  by_cases heq:(GL.go (cutW e f) b n).x+(GL.go (cutW e f) b n).b-(GL.go (cutW e f) b n).y=(GL.go (cutW e f) b n).y
  ·have st2:(GL.go (cutW e f) b (n+1))=⟨(GL.go (cutW e f) b n).x,(GL.go (cutW e f) b n).b,(GL.go (cutW e f) b n).y,(GL.go (cutW e f) b n).x+(GL.go (cutW e f) b n).b-(GL.go (cutW e f) b n).y,(GL.go (cutW e f) b n).fy,(GL.go (cutW e f) b n).fy,(GL.go (cutW e f) b n).s⟩:=by rw[st];unfold GL.right;rw[if_pos heq]
   exact Q1X
  ·have st2:(GL.go (cutW e f) b (n+1))=⟨(GL.go (cutW e f) b n).x,(GL.go (cutW e f) b n).b,(GL.go (cutW e f) b n).y,(GL.go (cutW e f) b n).x+(GL.go (cutW e f) b n).b-(GL.go (cutW e f) b n).y,(GL.go (cutW e f) b n).fy,jep (cutW e f) ((GL.go (cutW e f) b n).x+(GL.go (cutW e f) b n).b-(GL.go (cutW e f) b n).y),(GL.go (cutW e f) b n).s.ask (cutW e f) ((GL.go (cutW e f) b n).x+(GL.go (cutW e f) b n).b-(GL.go (cutW e f) b n).y)⟩:=by rw[st];unfold GL.right;rw[if_neg heq]
   have hr:0<=(GL.go (cutW e f) b n).x+(GL.go (cutW e f) b n).b-(GL.go (cutW e f) b n).y/\(GL.go (cutW e f) b n).x+(GL.go (cutW e f) b n).b-(GL.go (cutW e f) b n).y<=34:=by have:=gx1.2.1;rw[st2] at this;exact this
   repeat' (first|(refine Bb ?_;first|with_reducible (first|refine Ba Q8H ?_|refine Ba (qab _ _ _) ?_|refine Ba (qaa _ _) ?_|refine Bk ?_|refine Ba rfl ?_|refine Ba ⟨by kernel_rfl,by kernel_rfl⟩ ?_|refine Bj ?_|refine Bh ?_|refine Bi ?_)|refine Bf Q9Q ?_|refine Bc (qrc e f ((GL.go (cutW e f) b n).x+(GL.go (cutW e f) b n).b-(GL.go (cutW e f) b n).y) _ (GL.go (cutW e f) b n).s w1 hr he hf 4 1 0 2 3 Q8H _ _ _ _ Q8I Q8I Q8I Q8I Q8I) ?_)|refine qah Q8I ?_)
   exact Q1Z):Z:=h
theorem Q0i(h:Z:=by
 refine qac (G:=tys) W tysOK mixed func141 Q8I Q8I Q8I ?_;repeat' (first|(refine Bb ?_;first|with_reducible (first|refine Ba Q8H ?_|refine Ba (qab _ _ _) ?_|refine Ba (qaa _ _) ?_|refine Bk ?_|refine Ba rfl ?_|refine Ba ⟨by kernel_rfl,by kernel_rfl⟩ ?_|refine Bj ?_|refine Bh ?_|refine Bi ?_)|refine Bc (jd6 _ _ _ _ _ _) ?_|refine Be (ynT he) ?_|refine Bf (nyT he) ?_|refine Bc (qew _ _) ?_|refine Be (ynT h1) ?_|refine Be (ynT h2) ?_|refine Be (ynT h3) ?_|refine Bf (nyT h1) ?_|refine Bf (nyT h2) ?_|refine Bf (nyT h3) ?_|refine Be Q8S ?_|refine Bf Q8X ?_|fail)|refine qah Q8I ?_)
 all_goals rfl):Z:=h
theorem Q0j(h:Z:=by repeat' (refine Bb ?_;first|refine Q56 ?_|refine Ba Q6H ?_|refine Q5X ?_|refine Ba (qdo (by show(evL T.E (evP now silent) (r+1)).length=_;rw[e1]) Q8I) ?_|refine Ba Q93 ?_|refine Ba (qm2 e1) ?_|exact Bg|refine Q5i ?_|refine Q5Q ?_|fail)):Z:=h
theorem Q0l(k:Y)(h:Wr Y->Z:=by
 intro kQ;repeat' (refine Bb ?_;first|refine Q56 ?_|refine Bf (by rw[hw,xh];omega) ?_|refine Q6u ?_|refine Q5p ?_|refine Q5l ?_|fail)
 refine Bb ?_;exact kQ.o):Z:=h ⟨k⟩
theorem Q0o(h:Z:=by
 have hb:i<64:=by have:=of_decide_eq_true hb;omega
 refine Q28 ?_;refine Bx ?_;refine Bb ?_;refine Bz [0,1,3,4,5] [(2,[6])] Q8O ?_;refine Q28 ?_;refine B7 [18,19] _ Q8O (fun h₂ hh=>qzm 18 19 i g (fun _=>Ses.o) ((hh 18 Q8R).trans rfl) ((hh 19 Q8R).trans rfl)) fun v ms hR=>?_
 obtain⟨q,rfl,rfl⟩:=hR;refine⟨by simp,?_⟩;repeat' (refine Bb ?_;first|refine Q57 ?_|refine Q6b ?_|refine Bm i 1 rfl Q8G ?_|refine N.store _ (jlx C id boot i g _ hb Q8G) ?_|fail)
 refine Bb ?_;refine N.next (i+1,upd g i q) ⟨by show i+1<=64;omega,by show 64-(i+1)<64-i;omega⟩ ?_;repeat' (refine Bb ?_;first|refine Q60 ?_|refine Ba (by rw[jdx _ Q8G Q8G];rfl) ?_|exact Bg|fail)):Z:=h
theorem Q0J(h:Z:=by
 refine qac (G:=tys) W tysOK mixed func146 Q8I Q8I Q8I ?_;repeat' (first|(refine Bb ?_;first|with_reducible (first|refine Ba Q8H ?_|refine Ba (qab _ _ _) ?_|refine Ba (qaa _ _) ?_|refine Bk ?_|refine Ba rfl ?_|refine Ba ⟨by kernel_rfl,by kernel_rfl⟩ ?_|refine Bj ?_|refine Bh ?_|refine Bi ?_)|refine Bc (qew _ _) ?_|refine Be (ynT h1) ?_|refine Be (ynT h2) ?_|refine Be (ynT h3) ?_|refine Bf (nyT h1) ?_|refine Bf (nyT h2) ?_|refine Bf (nyT h3) ?_|with_reducible refine N.max2 ?_|fail)|refine qah Q8I ?_)
 all_goals rfl):Z:=h
theorem Q0K(h:Z:=by
 refine Bb ?_;exact Q4C):Z:=h
theorem Q0P(h:Z:=by exact Q4C):Z:=h
theorem Q1p(k:Y)(h:Wr Y->Z:=by
 intro kQ;repeat' (refine Bb ?_;first|refine Q56 ?_|fail)
 refine Bb ?_;exact kQ.o):Z:=h ⟨k⟩
theorem Q1s(k:Y)(h:Wr Y->Z:=by
 intro kQ;refine qac (G:=tys) W tysOK mixed func173 Q8I Q8I Q8I ?_;exact kQ.o):Z:=h ⟨k⟩
theorem Q1x(k:Y)(h:Wr Y->Z:=by
 intro kQ;repeat' (refine Bb ?_;first|refine Q56 ?_|refine jj2 entV _ rfl rfl rfl underlying128 underlying3 ?_|fail)
 refine Bb ?_;exact kQ.o):Z:=h ⟨k⟩
theorem Q1C(k:Y)(h:Wr Y->Z:=by
 intro kQ;repeat' (refine Bb ?_;first|refine Q56 ?_|refine Q5l ?_|fail)
 refine Bb ?_;exact kQ.o):Z:=h ⟨k⟩
theorem Q1E(h:Z:=by
 repeat' (refine Bb ?_;first|refine Q55 ?_|refine Bp (fun hb=>?_) (fun hb=>?_)|fail)
 all_goals
  refine jfk ?_
  simp only[xh,xk,xJ,false_iff,true_iff,iff_true,iff_false,reduceCtorEq,yq,xK,yr,yb] at *
  omega):Z:=h
theorem Q1K(h:Z:=by
 repeat' (refine Bb ?_;first|refine Q55 ?_|refine Bc (jka T k e hd 2 _ Q8I) ?_|refine Bc (ji8 D 1 2 _ (qj3 D 1 2) e.el e.when_ now 0 _ Q8I) ?_|refine Q5d ?_|refine Be (by rw[hh];rfl) ?_|refine Bf (by rw[hh];rfl) ?_|fail)
 exact Q0K):Z:=h
theorem Q1S(h:Z:=by exact Q4k):Z:=h
theorem Q28(k:Y)(h:Wr Y->Z:=by
 intro kQ;repeat' (refine Bb ?_;first|refine Q57 ?_|refine Q6b ?_|refine Bm i 1 rfl Q8G ?_|refine N.store _ (jlx C id boot i g _ hb Q8G) ?_|fail)
 refine Bb ?_;exact kQ.o):Z:=h ⟨k⟩
theorem Q2d(k:Y)(h:Wr Y->Z:=by
 intro kQ;repeat' (refine Bb ?_;first|refine Q55 ?_|refine Q5p ?_|refine Q5l ?_|fail)
 refine Bb ?_;exact kQ.o):Z:=h ⟨k⟩
theorem Q2f(h:Z:=by repeat' (refine Bb ?_;first|refine Q60 ?_|refine Ba (q6m C id boot _) ?_|exact Bg|fail)):Z:=h
theorem Q2n(h:Z:=by
 refine Q0l ?_;refine Br (α:=EvS) (.yes (r+1) c) [(0,0),(1,1),(2,2),(3,3),(4,4)] (And.intro ⟨hlt,by show 0<(evL T.E (evP now silent) (r+1)).length;rw[e1];exact r2,by show(evL T.E (evP now silent) (r+1)).length<=c;rw[e1];exact r3⟩ Q8Z) ?_;exact Q0j):Z:=h
theorem Q2r(k:Y)(h:Wr Y->Z:=by
 intro kQ;repeat' (refine Bb ?_;first|refine Q55 ?_|refine Be hb ?_|refine Bf hb ?_|fail)
 refine Bb ?_;exact kQ.o):Z:=h ⟨k⟩
theorem Q2z(k:Y)(h:Wr Y->Z:=by
 intro kQ;repeat' (refine Bb ?_;first|refine Q55 ?_|refine Q5d ?_|fail)
 refine Bb ?_;exact kQ.o):Z:=h ⟨k⟩
theorem Q2I(k:Y)(h:Wr Y->Z:=by
 intro kQ;refine Q4t ?_;refine Bn _ (q0j hlt hce rfl Q9b) ?_;refine Q1p ?_;refine N.max2 ?_;rw[q0i];exact kQ.o):Z:=h ⟨k⟩
theorem Q2P(h:Z:=by
 refine Q0l ?_;refine Br (α:=EvS) (.no (r+1)) [(0,0),(1,1),(2,2),(3,3)] (And.intro ⟨hlt,by show evL T.E (evP now silent) (r+1)=[];rw[e1,r2]⟩ Q8Z) ?_;exact Q0j):Z:=h
theorem Q2U(h:Z:=by
 refine qb5 T β 0 1 2 [] qbv Q6C hβ Q8I Q8I Q8I Q8I Q8I Q8I Q8I Q8I Q8I Q8H (fun k hk=>by cases hk) jgh (qbn rfl) ?_;exact Q2c):Z:=h
theorem Q3f(h:Z:=by
 refine Br (α:=Nat) (k+1) [(0,0),(1,1),(2,2),(3,3),(4,4),(5,5),(6,6),(11,11),(12,12),(13,13),(14,14)] ⟨by show k+1<=2;omega,by show 2-(k+1)<2-k;omega⟩ ?_;exact Q0g):Z:=h
theorem Q3r(k:Y)(h:Wr Y->Z:=by
 intro kQ;refine Bb ?_;refine Be Q8S ?_;exact kQ.o):Z:=h ⟨k⟩
theorem Q3t(k:Y)(h:Wr Y->Z:=by
 intro kQ;refine qac (G:=tys) W tysOK mixed func199 Q8I Q8I Q8I ?_;exact kQ.o):Z:=h ⟨k⟩
theorem Q3A(h:Z:=by
 refine Br (α:=Nat) (k+1) [(0,0),(1,1),(2,2),(3,3),(4,4),(5,5),(6,6),(7,7)] ⟨by show k+1<=1;omega,by show 1-(k+1)<1-k;omega⟩ ?_;exact Q0g):Z:=h
theorem Q4d(k:Y)(h:Wr Y->Z:=by
 intro kQ;refine qac (G:=tys) W tysOK mixed func164 Q8I Q8I Q8I ?_;exact kQ.o):Z:=h ⟨k⟩
theorem Q4e(k:Y)(h:Wr Y->Z:=by
 intro kQ;refine qac (G:=tys) W tysOK mixed func163 Q8I Q8I Q8I ?_;exact kQ.o):Z:=h ⟨k⟩
theorem Q4k(h:Z:=by
 refine Ba ⟨⟨.inl rfl,.inl rfl,.inr ⟨_,rfl,rfl⟩,xb⟩,xb⟩ ?_;exact Bg):Z:=h
theorem Q4t(k:Y)(h:Wr Y->Z:=by
 intro kQ;refine Bb ?_;refine Bf Q8X ?_;refine Bb ?_;refine Bm r 1 rfl hlt ?_;refine Bb ?_;exact kQ.o):Z:=h ⟨k⟩
theorem Q4C(h:Z:=by
 refine Bq ?_;refine Q3D ?_;refine Q2q ?_;refine Ba xb ?_;exact Q1S):Z:=h
theorem Q57(k:Y)(h:Wr Y->Z:=by intro kQ;(first|with_reducible (first|refine Ba Q8H ?_|refine Ba (qab _ _ _) ?_|refine Ba (qaa _ _) ?_|refine Bk ?_|refine Ba rfl ?_|refine Ba ⟨by kernel_rfl,by kernel_rfl⟩ ?_|refine Bh ?_|refine Bi ?_)|fail);exact kQ.o):Z:=h ⟨k⟩
theorem Q5L(k:Y)(h:Wr Y->Z:=by intro kQ;(first|refine Bf Q8I ?_|refine Bm 0 0 rfl Q8H ?_|refine B6 _ (q6k _ _ _ _ _ _ _ _ _ _ _ _) ?_|refine Bc (qjy 0 0 8 _ Q8H Q8H) ?_|refine Bc (qos 3 3 5 1 4 4 _) ?_|refine Bc (qlt _ (qu4 3 3 5 1 4 4) 2 7 Q8H Q8H 0 0 64 0 64 Q8H Q8H 2 _ Q8I) ?_|fail);exact kQ.o):Z:=h ⟨k⟩
theorem Q5Q(k:Y)(h:Wr Y->Z:=by intro kQ;(first|refine Ba qb0 ?_|refine Ba (qcj rfl rfl) ?_|refine Ba (qfa fun _ _=>rfl) ?_|fail);exact kQ.o):Z:=h ⟨k⟩
theorem Q5X(k:Y)(h:Wr Y->Z:=by intro kQ;(first|refine Ba (jj8 (qbx (show jlv silent (r+1)=max 1 silent from if_neg (Nat.succ_ne_zero _))) rfl) ?_|fail);exact kQ.o):Z:=h ⟨k⟩
theorem Q60(k:Y)(h:Wr Y->Z:=by intro kQ;(first|with_reducible (first|refine Ba Q8H ?_|refine Ba (qab _ _ _) ?_|refine Ba (qaa _ _) ?_|refine Bk ?_|refine Ba rfl ?_|refine Ba ⟨by kernel_rfl,by kernel_rfl⟩ ?_|refine Bj ?_|refine Bh ?_|refine Bi ?_|refine Ba (ChunkLe.refl _) ?_)|fail);exact kQ.o):Z:=h ⟨k⟩
theorem Q67(k:Y)(h:Wr Y->Z:=by intro kQ;(first|refine Bc (qlf s.te s.tx now 4 _ Q8I ⟨hd,by omega⟩ Q8G) ?_|refine Bc (qhi _ _ _ _ _ _ _ 1 _ Q8I) ?_|refine Bc (jpp _ _ _ _ _ _ _ 1 _ Q8I) ?_|refine Bf hv ?_|refine Be hv ?_|fail);exact kQ.o):Z:=h ⟨k⟩
theorem Q69(k:Y)(h:Wr Y->Z:=by intro kQ;(first|refine B6 _ (q6l _ _ _ _ _ _ _ _ _ _ _ _) ?_|refine Bc (q51 _ 2 _ Q8I) ?_|refine Bc (jm9 _ 6 _ Q8I) ?_|refine Bc (q52 _ 10 _ Q8I) ?_|refine Bc (q53 _ 14 _ Q8I) ?_|fail);exact kQ.o):Z:=h ⟨k⟩
theorem Q6p(k:Y)(h:Wr Y->Z:=by intro kQ;(first|refine Bc (qf2 now _) ?_|refine Be Qa4 ?_|refine Bc (qzd s.bn s.bl 3 _ Q8I) ?_|fail);exact kQ.o):Z:=h ⟨k⟩
theorem Q6u(k:Y)(h:Wr Y->Z:=by intro kQ;(first|refine Be (by rw[hw,xk];omega) ?_|fail);exact kQ.o):Z:=h ⟨k⟩
theorem Q6H(h:Z:=by first|exact jj8 (qbx (by rw[jdx ((r:Int)+1) Q8G Q8G];rfl)) rfl|fail):Z:=h
theorem Q6Y(h:Z:=by first|exact fun ρ ρ' ha=>by have:=ha 6 ⟨_,rfl⟩;simp[den,den2,den1,den0,jeu,this]|fail):Z:=h
theorem Q78(h:Z:=by first|exact .one (.slice Q8I)|fail):Z:=h
theorem Q7d(h:Z:=by first|exact ⟨rfl,rfl,rfl,fun w=>by go_simp;by_cases h1:a=p<;>by_cases h2:b=q<;>by_cases h3:c=r<;>by_cases h4:d=s<;>by_cases h5:e=t<;>simp[h1,h2,h3,h4,h5]⟩|fail):Z:=h
theorem Q7E(h:Z:=by first|exact ⟨fun h=>Q95,hc.n,qu7 hc Q8I Q8I⟩|fail):Z:=h
theorem Q7Y(h:Z:=by first|exact qm1 h' m m 0 _ _ Q8G Q8G Q8G Q8I|fail):Z:=h
theorem Q86(h:Z:=by first|exact ⟨⟨.inl rfl,.inr ⟨_,rfl,rfl⟩,.inl rfl,.inr ⟨_,rfl,rfl⟩,.inl rfl,.inl rfl,xb⟩,xb⟩|fail):Z:=h
theorem Q8g(h:Z:=by first|exact qdo (by show(evL T.E (evP now silent) (r+1)).length=_;rw[e1,xt];rfl) Q8I|fail):Z:=h
theorem Q8n(h:Z:=by first|exact q0e k k 5 _ _ Q8G Q8G Q8I|fail):Z:=h
theorem Q8A(h:Z:=by first|exact qu8 D T _ _ k now 0 1 2 (qj3 D 1 2) _ Q8I Q8I Q8I Q8H|fail):Z:=h
theorem Q8C(h:Z:=by first|exact fun ρ ρ' ha=>by have:=ha 18 ⟨_,rfl⟩;simp[den,den2,den1,den0,jeu,this]|fail):Z:=h
theorem Q8Z(h:Z:=by show T.E.length-(r+1)<T.E.length-r;omega):Z:=h
theorem Q93(h:Z:=by show ChunkReLe _ (mapC entV (evE T.E (evP now silent) (r+1))) _;rw[e2];exact qb0):Z:=h
theorem Q96(h:Z:=by rw[hc];rfl):Z:=h
theorem Q9k(h:Z:=by rw[if_neg Q8G];rfl):Z:=h
theorem Q9x(h:Z:=by rw[hf];rfl):Z:=h
theorem Qa1(h:Z:=by rw[w1,w2];exact w4):Z:=h
theorem Qa4(h:Z:=by rw[xi ht];rfl):Z:=h
theorem Qab(h:Z:=by rw[w2];exact w3):Z:=h
theorem Qaf(h:Z:=by show(_+1)*8<=_;omega):Z:=h
end
end Go.Proofs

namespace Go.Proofs.YtfkngpmgcimdbaaGreat
open Go Go.RowKit Sx
variable {c:Nat}
theorem q6e {o:Oper} {st:St} {x y:Operand} {t:TypeId} {k s l:Nat} {ck:Chunk} {K:Value->Mz->Prop} (ho:o.op=.call ⟨.builtin .append,#[x,y],#[t,t]⟩) (hx:EvTo x st (.slice (some ⟨k,0,some s⟩) l c)) (hck:st.h[k]?=some (some ck)) (hy:EvTo y st (.slice none 0 0)) (hc:l<=c)
  (ht:jd2 tys t fun _ d=>match d with|.slice e=>jd2 tys e fun _ _=>True|_=>False) (hK:K (.slice (some ⟨k,0,some s⟩) l c) []):N (EffAll prog o st K):=N.mk fun X ρ a w R next Q hn=>by
 obtain⟨ti,d,_,h1,hd⟩:=qao tysOK ht
 split at hd
 ·obtain⟨ei,d2,h2,_,_⟩:=qao tysOK hd;have hx':a.eval x=.slice (some ⟨(ρ k).1,(ρ k).2+0,none⟩) l c:=(hx.den R).self.symm;have hy':a.eval y=.slice none 0 0:=(hy.den R).self.symm;have hrun:(Builtin.append_ #[t,t] o.type #[.slice (some ⟨(ρ k).1,(ρ k).2+0,none⟩) l c,.slice none 0 0]).run prog w=.ok (.slice (some ⟨(ρ k).1,(ρ k).2+0,none⟩) l c) w:=by
   simp[Builtin.append_,run_underlying h1,sizeOf,typeInfo,h2,Builtin.lenOf,run_firstCells_none,storeCells,hc]
  have hrun2:=qch (P:=prog) (o:=o) (x:=x) (y:=y) (t:=t) (a:=a) ho Q9B;unfold Oper.wp;rw[hrun2];refine hn _ _ ρ _ _ hK ⟨AgreeOn.refl _ _,R.heap,fun r hr=>?_⟩;have e:=hr k ⟨ck,hck⟩;simp[den,den2,den1,den0,jeu,e]
 ·exact hd.elim
abbrev jkl (o:Bool) (i j:Nat):Chunk:=⟨o,1,[(0,1,.func (.func 220) #[] (pt2 i j))]⟩
abbrev jpv (i j:Nat):Value:=.func (.func 220) #[] (pt2 i j)
theorem cWC (e:El) (f:Strip) (w:Int) (hw:0<=w/\w<=34) (he:e.may) (hf:f.may) (i j:Nat) (hij:i≠j) (o1 o2:Bool) (h:Hp) (hi:h[i]?=some (some (elC o1 e))) (hj:h[j]?=some (some (stC o2 f))) :
  qaf prog 220 [xc w,xd i,xd j] h (.tuple #[elE (cutW e f w).1,xc (cutW e f w).2]) [] [i,j]:=by
 refine qal (G:=tys) [⟨i,_,elC false e,⟨false,0,[]⟩⟩,⟨j,_,stC false f,⟨false,0,[]⟩⟩] [] [xc w,xd 0,xd 1] tysOK mixed func220 Q8I (call220) ⟨hi,hj,xb⟩ ⟨el_re _,st_re _,xb⟩ Q9p xb Q7X ?_
 repeat' (first|(refine Bb ?_;first|with_reducible (first|refine Ba Q8H ?_|refine Ba (qab _ _ _) ?_|refine Ba (qaa _ _) ?_|refine Bk ?_|refine Ba rfl ?_|refine Ba ⟨by kernel_rfl,by kernel_rfl⟩ ?_|refine Bj ?_|refine Bh ?_|refine Bi ?_)|refine Bc (joe e f w _ hw he hf) ?_|refine Ba (.plain rfl) ?_|refine Ba xb ?_|exact Bg|fail)|refine qah Q8I ?_)
theorem cQC (e:El) (f:Strip) (w:Int) (b:Bool) (hw:0<=w/\w<=34) (he:e.may) (hf:f.may) (k m i j:Nat) (hne:[k,m,i,j].Nodup) (o1 o2 o3:Bool) (h:Hp) (hk:h[k]?=some (some (jkl o3 i j))) (hm:h[m]?=some (some (bC b))) (hi:h[i]?=some (some (elC o1 e))) (hj:h[j]?=some (some (stC o2 f))) :
  qaf prog 190 [xc w,xd k,xd m] h (.tuple #[xc (jep (cutW e f) w).n,.bool (jep (cutW e f) w).ok]) [(m,bC (b||decide ((cutW e f w).2=3)))] [k,i,j]:=by
 simp only[xL,xg,xI,or_false,not_or,xK,yz,and_true] at hne
 refine qal (G:=tys) [⟨m,_,bC b,bC (b||decide ((cutW e f w).2=3))⟩,⟨k,_,jkl false 2 3,⟨false,0,[]⟩⟩,⟨i,_,elC false e,⟨false,0,[]⟩⟩,⟨j,_,stC false f,⟨false,0,[]⟩⟩] [] [xc w,xd 1,xd 0] tysOK mixed func190 Q8I (call190) ⟨hm,hk,hi,hj,xb⟩ ⟨b_re (nlr _) _,Q6U,el_re _,st_re _,xb⟩ Q9F xb Q7X ?_
 cases b
 all_goals
  repeat' (first|(refine Bb ?_;first|with_reducible (first|refine Ba Q8H ?_|refine Ba (qab _ _ _) ?_|refine Ba (qaa _ _) ?_|refine Bk ?_|refine Ba rfl ?_|refine Ba ⟨by kernel_rfl,by kernel_rfl⟩ ?_|refine Bj ?_|refine Bh ?_|refine Bi ?_)|refine Bc (cWC e f w hw he hf 2 3 Q8H _ _ _ Q8I Q8I) ?_|refine Bc (qd1 _ _ _ _ _ _) ?_|refine Bf Q8I ?_|refine Ba (.plain rfl) ?_|refine Ba Q74 ?_|refine Ba xb ?_|exact Bg|fail)|refine qah Q8I ?_)
theorem jkm (e:El) (f:Strip) (w:Int) (s:GS) (hw:0<=w/\w<=34) (he:e.may) (hf:f.may) (a k m i j:Nat) (hne:[a,k,m,i,j].Nodup) (o1 o2 o3:Bool) (h:Hp) (ha:h[a]?=some (some (seC true k m s))) (hk:h[k]?=some (some (jkl o3 i j))) (hm:h[m]?=some (some (bC s.emp))) (hi:h[i]?=some (some (elC o1 e))) (hj:h[j]?=some (some (stC o2 f))) :
  qaf prog 207 [xd a,xc w] h (.agg #[xc (jep (cutW e f) w).n,.bool (jep (cutW e f) w).ok]) [(a,seC true k m (s.ask (cutW e f) w)),(m,bC (s.ask (cutW e f) w).emp)] [k,i,j]:=by
 simp only[xL,xg,xI,or_false,not_or,xK,yz,and_true] at hne
 have hemp:(s.ask (cutW e f) w).emp=(s.emp||decide ((cutW e f w).2=3)):=by unfold GS.ask;split<;>rfl
 rcases qcv (jep (cutW e f) w).ok with h1|h1
 ·skip;have hs':s.ask (cutW e f) w=⟨s.w,s.best,s.emp||decide ((cutW e f w).2=3)⟩:=by unfold GS.ask;exact if_neg (by simp[h1])
  exact Q07
 ·rcases qcv s.best.ok with h2|h2
  ·skip;have hs':s.ask (cutW e f) w=⟨w,jep (cutW e f) w,s.emp||decide ((cutW e f w).2=3)⟩:=by unfold GS.ask;exact if_pos (by simp[h1,h2])
   exact Q07
  ·by_cases h3:(jep (cutW e f) w).n<s.best.n
   ·skip;have hs':s.ask (cutW e f) w=⟨w,jep (cutW e f) w,s.emp||decide ((cutW e f w).2=3)⟩:=by unfold GS.ask;exact if_pos (by simp[h1,h2,h3])
    exact Q07
   ·by_cases h4:(jep (cutW e f) w).n=s.best.n
    ·by_cases h5:w<s.w
     ·skip;have hs':s.ask (cutW e f) w=⟨w,jep (cutW e f) w,s.emp||decide ((cutW e f w).2=3)⟩:=by unfold GS.ask;exact if_pos (by simp[h1,h2,h4,h5])
      exact Q07
     ·skip;have hs':s.ask (cutW e f) w=⟨s.w,s.best,s.emp||decide ((cutW e f w).2=3)⟩:=by unfold GS.ask;exact if_neg (by simp[h1,h2,h3,h5])
      exact Q07
    ·skip;have hs':s.ask (cutW e f) w=⟨s.w,s.best,s.emp||decide ((cutW e f w).2=3)⟩:=by unfold GS.ask;exact if_neg (by simp[h1,h2,h3,h4])
     exact Q07
theorem qrc (e:El) (f:Strip) (w w':Int) (s:GS) (hww:w'=w) (hw:0<=w/\w<=34) (he:e.may) (hf:f.may) (a k m i j:Nat) (hne:[a,k,m,i,j].Nodup) (o1 o2 o3:Bool) (h:Hp) (ha:h[a]?=some (some (seC true k m s))) (hk:h[k]?=some (some (jkl o3 i j))) (hm:h[m]?=some (some (bC s.emp))) (hi:h[i]?=some (some (elC o1 e))) (hj:h[j]?=some (some (stC o2 f))) :
  qaf prog 207 [xd a,xc w'] h (.agg #[xc (jep (cutW e f) w).n,.bool (jep (cutW e f) w).ok]) [(a,seC true k m (s.ask (cutW e f) w)),(m,bC (s.ask (cutW e f) w).emp)] [k,i,j]:=by
 subst hww
 exact jkm e f w' s hw he hf a k m i j hne o1 o2 o3 h ha hk hm hi hj
theorem jcj (e:El) (f:Strip) (b:Bool) (he:e.may) (hf:f.may) (k m i j:Nat) (hne:[k,m,i,j].Nodup) (o1 o2 o3:Bool) (h:Hp) (hk:h[k]?=some (some (jkl o3 i j))) (hm:h[m]?=some (some (bC b))) (hi:h[i]?=some (some (elC o1 e))) (hj:h[j]?=some (some (stC o2 f))) :
  qaf prog 189 [.func (.func 190) #[] (pt2 k m)] h (.tuple #[xc (GL.go (cutW e f) b 6).s.w,xc (GL.go (cutW e f) b 6).s.best.n,.bool (GL.go (cutW e f) b 6).s.best.ok]) [(m,bC (GL.go (cutW e f) b 6).s.emp)] [k,i,j]:=by
 simp only[xL,xg,xI,or_false,not_or,xK,yz,and_true] at hne
 refine qal (G:=tys) [⟨m,_,bC b,bC (GL.go (cutW e f) b 6).s.emp⟩,⟨k,_,jkl false 2 3,⟨false,0,[]⟩⟩,⟨i,_,elC false e,⟨false,0,[]⟩⟩,⟨j,_,stC false f,⟨false,0,[]⟩⟩] [] [.func (.func 190) #[] (pt2 1 0)] tysOK mixed func189 Q8I (call189) ⟨hm,hk,hi,hj,xb⟩ ⟨b_re (nlr _) _,Q6U,el_re _,st_re _,xb⟩ Q9F xb ⟨.func xb Q6W,xb⟩ ?_
 repeat' (first|(refine Bb ?_;first|with_reducible (first|refine Ba Q8H ?_|refine Ba (qab _ _ _) ?_|refine Ba (qaa _ _) ?_|refine Bk ?_|refine Ba rfl ?_|refine Ba ⟨by kernel_rfl,by kernel_rfl⟩ ?_|refine Bj ?_|refine Bh ?_|refine Bi ?_)|refine Bc (jkm e f 13 ⟨0,⟨0,false⟩,b⟩ Q8H he hf 4 1 0 2 3 Q8H _ _ _ _ Q8I Q8I Q8I Q8I Q8I) ?_|refine Bc (jkm e f 21 (GS.ask (cutW e f) ⟨0,⟨0,false⟩,b⟩ 13) Q8H he hf 4 1 0 2 3 Q8H _ _ _ _ Q8I Q8I Q8I Q8I Q8I) ?_|refine Be Q8H ?_|refine Bc (jhp (jep (cutW e f) 13) (jep (cutW e f) 21) _) ?_|refine Bf Q8H ?_|refine Bp (fun hb=>?_) (fun hb=>?_)|refine Bc (qrc e f 8 _ (GS.first (cutW e f) b) Q8H Q8H he hf 4 1 0 2 3 Q8H _ _ _ _ Q8I Q8I Q8I Q8I Q8I) ?_)|refine qah Q8I ?_)
 ·refine Bb ?_;refine N.jumps tysOK mixed (α:=Nat) (fun l n=>(l=0/\n<=6)\/(l=1/\n<6/\(GL.go (cutW e f) b n).fx.most (GL.go (cutW e f) b n).fy=false)) (fun l n=>if l=0 then 2*(6-n)+1 else 2*(6-n)) (fun _ n=>[(5,xd 4),(6,xc (GL.go (cutW e f) b n).a),(7,xc (GL.go (cutW e f) b n).b),(8,xc (GL.go (cutW e f) b n).x),(9,xc (GL.go (cutW e f) b n).y),(10,xd 13),(11,xd 14)]) (fun _ n=>[(0,bC (GL.go (cutW e f) b n).s.emp),(4,seC true 1 0 (GL.go (cutW e f) b n).s),(13,gvC (GL.go (cutW e f) b n).fx),(14,gvC (GL.go (cutW e f) b n).fy)]) 0 Q8q ?_ ?_
  ·exact Q1D
  exact Q09
 ·refine Bb ?_;refine N.jumps tysOK mixed (α:=Nat) (fun l n=>(l=0/\n<=6)\/(l=1/\n<6/\(GL.go (cutW e f) b n).fx.most (GL.go (cutW e f) b n).fy=false)) (fun l n=>if l=0 then 2*(6-n)+1 else 2*(6-n)) (fun _ n=>[(5,xd 4),(6,xc (GL.go (cutW e f) b n).a),(7,xc (GL.go (cutW e f) b n).b),(8,xc (GL.go (cutW e f) b n).x),(9,xc (GL.go (cutW e f) b n).y),(10,xd 13),(11,xd 14)]) (fun _ n=>[(0,bC (GL.go (cutW e f) b n).s.emp),(4,seC true 1 0 (GL.go (cutW e f) b n).s),(13,gvC (GL.go (cutW e f) b n).fx),(14,gvC (GL.go (cutW e f) b n).fy)]) 1 (.inl ⟨rfl,by decide⟩) ?_ ?_
  ·rw[show GL.go (cutW e f) b 1=(GL.start (cutW e f) b).left (cutW e f) from if_pos Qa3];exact Q1D
  exact Q09
theorem q84 (e:El) (f:Strip) (he:e.may) (hf:f.may) (i j:Nat)  (hne:i≠j) (o1 o2:Bool) (h:Hp) (hi:h[i]?=some (some (elC o1 e))) (hj:h[j]?=some (some (stC o2 f)))  :
  qaf prog 165 [elE e,jpv i j,.slice none 0 0] h (.tuple #[elE (qbi e (cutW e f) []).1,xc (qbi e (cutW e f) []).2]) [] [i,j]:=by
 refine qal (G:=tys) [⟨i,_,elC false e,⟨false,0,[]⟩⟩,⟨j,_,stC false f,⟨false,0,[]⟩⟩] [] [elE e,jpv 0 1,.slice none 0 0] tysOK mixed func165 Q8I (call165) ⟨hi,hj,xb⟩ ⟨el_re _,st_re _,xb⟩ (by simp[Apart, *]) xb ⟨.plain rfl,.func xb Q6W,.plain rfl,xb⟩ ?_
 repeat' (first|(refine Bb ?_;first|with_reducible (first|refine Ba Q8H ?_|refine Ba (qab _ _ _) ?_|refine Ba (qaa _ _) ?_|refine Bk ?_|refine Ba rfl ?_|refine Ba ⟨by kernel_rfl,by kernel_rfl⟩ ?_|refine Bj ?_|refine Bh ?_|refine Bi ?_)|refine Bc (jcj e f false he hf 3 5 0 1 Q8H _ _ _ _ Q8I Q8I Q8I Q8I) ?_)|refine qah Q8I ?_)
 rcases qcv (GL.go (cutW e f) false 6).s.emp with hem|hem
 ·rcases qcv (GL.go (cutW e f) false 6).s.best.ok with hok|hok
  ·have hF:qbi e (cutW e f) []=(([e]++[]).foldl lesser e,0):=by unfold qbi;rw[hem,hok];rfl
   rw[hF];repeat' (first|(refine Bb ?_;first|with_reducible (first|refine Ba Q8H ?_|refine Ba (qab _ _ _) ?_|refine Ba (qaa _ _) ?_|refine Bk ?_|refine Ba rfl ?_|refine Ba ⟨by kernel_rfl,by kernel_rfl⟩ ?_|refine Bj ?_|refine Bh ?_|refine Bi ?_)|refine Be hem ?_|refine Be hok ?_)|refine qah Q8I ?_)
   refine Bb ?_;refine q6e (ck:=elC true e) rfl rfl rfl rfl Q8H xb ?_;have le1:ChunkLe (rwE 1 [e]) (elC true e):=jcg e;refine Q01 ?_;refine Bw (α:=Nat) (fun k=>k<=1) (fun k=>1-k) (fun k=>[(44,xc (k:Int))]) (fun k=>[(6,rwE 1 [e]),(7,elC true (([e].take k).foldl lesser e))]) 0 [(0,0),(1,1),(2,2),(3,3),(4,4),(5,5),(6,6),(7,7)] (xm _) ?_ ?_
   ·exact Q0V
   intro k hk;by_cases hlt:k<1
   ·have st:=qgs [e] e k hlt;generalize hO:([e].take k).foldl lesser e=O;by_cases hless:([e].getD k El.o).tr<O.tr
    ·have hls:lesser O ([e].getD k El.o)=[e].getD k El.o:=if_pos hless;refine Q0r ?_;exact Q3A
    ·have hls:lesser O ([e].getD k El.o)=O:=if_neg hless;refine Q0p ?_;exact Q3A
   ·obtain rfl:k=1:=by omega
    rw[show([e].take 1).foldl lesser e=[e].foldl lesser e from qi1 [e] e];exact Q0F
  ·have hF:qbi e (cutW e f) []=((([e]++[(cutW e f (GL.go (cutW e f) false 6).s.w).1])++[]).foldl lesser e,0):=by unfold qbi;rw[hem,hok];rfl
   rw[hF];repeat' (first|(refine Bb ?_;first|with_reducible (first|refine Ba Q8H ?_|refine Ba (qab _ _ _) ?_|refine Ba (qaa _ _) ?_|refine Bk ?_|refine Ba rfl ?_|refine Ba ⟨by kernel_rfl,by kernel_rfl⟩ ?_|refine Bj ?_|refine Bh ?_|refine Bi ?_)|refine Be hem ?_|refine Bf hok ?_|refine Bc (cWC e f (GL.go (cutW e f) false 6).s.w (jpt _ _ 6 Q8H) he hf 0 1 Q8H _ _ _ Q8I Q8I) ?_)|refine qah Q8I ?_)
   refine Bb ?_;generalize hX:(cutW e f (GL.go (cutW e f) false 6).s.w).1=X at *;refine qu0 (elE X) (ji4 X rfl) rfl (by show 1*5<=5;decide) Q8H Q8H (rwE 1 [e]) (fun h=>absurd h Q8H) (fun h=>absurd h Q8H) (fun _ cap hcap=>?_);have le1:ChunkLe (rwE cap ([e]++[X])) (grown (elC true e) 1 1 5 (elE X) (elE El.o) cap):=ji2 rfl rfl (quz e) hcap;refine Q01 ?_;refine q6e rfl rfl rfl rfl hcap xb ?_;refine Q01 ?_;refine Bw (α:=Nat) (fun k=>k<=2) (fun k=>2-k) (fun k=>[(44,xc (k:Int))]) (fun k=>[(13,rwE cap ([e]++[X])),(14,elC true ((([e]++[X]).take k).foldl lesser e))]) 0 [(0,0),(1,1),(2,2),(3,3),(4,4),(5,5),(6,6),(11,11),(12,12),(13,13),(14,14)] (xm _) ?_ ?_
   ·exact Q0V
   intro k hk;by_cases hlt:k<2
   ·have st:=qgs ([e]++[X]) e k hlt;generalize hO:(([e]++[X]).take k).foldl lesser e=O;by_cases hless:(([e]++[X]).getD k El.o).tr<O.tr
    ·have hls:lesser O (([e]++[X]).getD k El.o)=([e]++[X]).getD k El.o:=if_pos hless;refine Q0r ?_;exact Q3f
    ·have hls:lesser O (([e]++[X]).getD k El.o)=O:=if_neg hless;refine Q0p ?_;exact Q3f
   ·obtain rfl:k=2:=by omega
    rw[show(([e]++[X]).take 2).foldl lesser e=([e]++[X]).foldl lesser e from qi1 ([e]++[X]) e];exact Q0F
 ·have hF:qbi e (cutW e f) []=(El.o,3):=by unfold qbi;rw[hem];rfl
  exact Q24
theorem jck (e:El) (f:Strip) (he:e.may) (hf:f.may) (W:World):xa 200 #[elE e,stV f] W (.tuple #[elE (cutF e f).1,xc (cutF e f).2]):=by
 rw[show cutF e f=qbi e (cutW e f) [] from if_pos ⟨he,hf⟩];refine qac (G:=tys) W tysOK mixed func200 Q8I Q8I Q8I ?_;repeat' (first|(refine Bb ?_;first|with_reducible (first|refine Ba Q8H ?_|refine Ba (qab _ _ _) ?_|refine Ba (qaa _ _) ?_|refine Bk ?_|refine Ba rfl ?_|refine Ba ⟨by kernel_rfl,by kernel_rfl⟩ ?_|refine Bj ?_|refine Bh ?_|refine Bi ?_)|refine Bc (jd6 _ _ _ _ _ _) ?_|refine Bc (qlp f _) ?_|refine Be (jlt he) ?_|refine Be (jlt hf) ?_|refine Bc (q84 e f he hf 0 1 Q8H _ _ _ Q8I Q8I) ?_|refine Ba (.plain rfl) ?_|refine Ba xb ?_|exact Bg|fail)|refine qah Q8I ?_)
 all_goals rfl
theorem jkn (e:El) (f:Strip) (h:Hp) (he:e.may) (hf:f.may):qaf prog 200 [elE e,stV f] h (.tuple #[elE (cutF e f).1,xc (cutF e f).2]) [] []:=
 qai rfl rfl (call200 _) (jck e f he hf)
theorem q6f (e:El) (f:Strip) (r:El) (c:Int) (h:Hp) (hr:cutF e f=(r,c)) (he:e.may) (hf:f.may):qaf prog 200 [elE e,stV f] h (.tuple #[elE r,xc c]) [] []:=by
 have:=jkn e f h he hf;rw[hr] at this;exact this
theorem q85 (e:El) (f:Strip) (he:e.may) (hf:¬ f.may) (W:World):xa 200 #[elE e,stV f] W (.tuple #[elE El.o,xc 1]):=by
 refine qac (G:=tys) W tysOK mixed func200 Q8I Q8I Q8I ?_;repeat' (first|(refine Bb ?_;first|with_reducible (first|refine Ba Q8H ?_|refine Ba (qab _ _ _) ?_|refine Ba (qaa _ _) ?_|refine Bk ?_|refine Ba rfl ?_|refine Ba ⟨by kernel_rfl,by kernel_rfl⟩ ?_|refine Bj ?_|refine Bh ?_|refine Bi ?_)|refine Bc (jd6 _ _ _ _ _ _) ?_|refine Bc (qlp f _) ?_|refine Be (jlt he) ?_|refine Bf (by rw[xf hf];rfl) ?_|refine Ba (.plain rfl) ?_|refine Ba xb ?_|exact Bg|fail)|refine qah Q8I ?_)
 all_goals rfl
theorem q6g (e:El) (f:Strip) (h:Hp) (he:e.may) (hf:¬ f.may):qaf prog 200 [elE e,stV f] h (.tuple #[elE El.o,xc 1]) [] []:=
 qai rfl rfl (call200 _) (q85 e f he hf)
theorem ji5 (x:Int) (h:Hp) (bx:Bd x 50):qaf prog 132 [wz 1,wz x] h (wz x) [] []:=by
 have b1:Bd (1:Int) 0:=Bd.og (n:=1) Q8H;have:=jdu 1 x h b1.b16 bx.b16 (b1.mul bx).top;rwa[Int.one_mul] at this
theorem q0e (x y:Int) (i:Nat) (o:Bool) (h:Hp) (hx:x.natAbs<=1125899906842624) (hy:y.natAbs<=1125899906842624) 
  (hi:h[i]?=some (some ⟨o,2,[(0,2,.agg #[xc x,xc y])]⟩)) :
  qaf prog 239 [.slice (some ⟨i,0,some 0⟩) 2 2] h (wz (x*y)) [] [i]:=by
 have bx:Bd x 50:=Bd.og hx
 have bY:Bd y 50:=Bd.og hy
 have b1:Bd (1:Int) 0:=Bd.og (n:=1) Q8H
 have e1:1*x=x:=Int.one_mul x
 have bp:Bd (x*y) 100:=bx.mul bY
 refine qal (G:=tys) [⟨i,_,⟨false,2,[(0,2,.agg #[xc x,xc y])]⟩,⟨false,0,[]⟩⟩] [] [.slice (some ⟨0,0,some 0⟩) 2 2] tysOK mixed func239 Q8I (call239) ⟨hi,xb⟩ ⟨qij (qbz rfl rfl),xb⟩ Q8N xb ⟨.slice rfl,xb⟩ ?_
 repeat' (first|(refine Bb ?_;first|with_reducible (first|refine Ba Q8H ?_|refine Ba (qab _ _ _) ?_|refine Ba (qaa _ _) ?_|refine Bk ?_|refine Ba rfl ?_|refine Ba ⟨by kernel_rfl,by kernel_rfl⟩ ?_|refine Bj ?_|refine Bh ?_|refine Bi ?_)|refine Bc (jev 1 _ Q8H Q8H) ?_|refine Bc (jev x _ Q8G Q8G) ?_|refine Bc (jev y _ Q8G Q8G) ?_|refine Bc (ji5 x _ bx) ?_|refine Bc (jdu x y _ bx.b16 bY.b16 bp.top) ?_)|refine qah Q8I ?_)
 refine Bb ?_
 refine Bu 3 ?_
 repeat' (first|(refine Bb ?_;first|with_reducible (first|refine Ba Q8H ?_|refine Ba (qab _ _ _) ?_|refine Ba (qaa _ _) ?_|refine Bk ?_|refine Ba rfl ?_|refine Ba ⟨by kernel_rfl,by kernel_rfl⟩ ?_|refine Bj ?_|refine Bh ?_|refine Bi ?_)|refine Bc (jev 1 _ Q8H Q8H) ?_|refine Bc (jev x _ Q8G Q8G) ?_|refine Bc (jev y _ Q8G Q8G) ?_|refine Bc (ji5 x _ bx) ?_|refine Bc (jdu x y _ bx.b16 bY.b16 bp.top) ?_|refine Bm 0 0 Q8H Q8H ?_|refine Bm 1 0 Q8H Q8H ?_|refine Bf Q8H ?_|refine Be Q8H ?_|refine Ba (.plain (qad _)) ?_|refine Ba xb ?_|exact Bg|fail)|refine qah Q8I ?_)
theorem qm1 (x y v:Int) (i:Nat) (o:Bool) (h:Hp) (hx:x.natAbs<=1125899906842624) (hy:y.natAbs<=1125899906842624) (hv:v.natAbs<=1125899906842624) 
  (hi:h[i]?=some (some ⟨o,3,[(0,3,.agg #[xc x,xc y,xc v])]⟩)) :
  qaf prog 239 [.slice (some ⟨i,0,some 0⟩) 3 3] h (wz (x*y*v)) [] [i]:=by
 have bx:Bd x 50:=Bd.og hx
 have bY:Bd y 50:=Bd.og hy
 have bv:Bd v 50:=Bd.og hv
 have b1:Bd (1:Int) 0:=Bd.og (n:=1) Q8H
 have e1:1*x=x:=Int.one_mul x
 have bp:Bd (x*y) 100:=bx.mul bY
 refine qal (G:=tys) [⟨i,_,⟨false,3,[(0,3,.agg #[xc x,xc y,xc v])]⟩,⟨false,0,[]⟩⟩] [] [.slice (some ⟨0,0,some 0⟩) 3 3] tysOK mixed func239 Q8I (call239) ⟨hi,xb⟩ ⟨qij (qbz rfl rfl),xb⟩ Q8N xb ⟨.slice rfl,xb⟩ ?_
 repeat' (first|(refine Bb ?_;first|with_reducible (first|refine Ba Q8H ?_|refine Ba (qab _ _ _) ?_|refine Ba (qaa _ _) ?_|refine Bk ?_|refine Ba rfl ?_|refine Ba ⟨by kernel_rfl,by kernel_rfl⟩ ?_|refine Bj ?_|refine Bh ?_|refine Bi ?_)|refine Bc (jev 1 _ Q8H Q8H) ?_|refine Bc (jev x _ Q8G Q8G) ?_|refine Bc (jev y _ Q8G Q8G) ?_|refine Bc (jev v _ Q8G Q8G) ?_|refine Bc (ji5 x _ bx) ?_|refine Bc (jdu x y _ bx.b16 bY.b16 bp.top) ?_|refine Bc (jdu (x*y) v _ bp.b16 bv.b16 (bp.mul bv).top) ?_)|refine qah Q8I ?_)
 refine Bb ?_
 refine Bu 4 ?_
 repeat' (first|(refine Bb ?_;first|with_reducible (first|refine Ba Q8H ?_|refine Ba (qab _ _ _) ?_|refine Ba (qaa _ _) ?_|refine Bk ?_|refine Ba rfl ?_|refine Ba ⟨by kernel_rfl,by kernel_rfl⟩ ?_|refine Bj ?_|refine Bh ?_|refine Bi ?_)|refine Bc (jev 1 _ Q8H Q8H) ?_|refine Bc (jev x _ Q8G Q8G) ?_|refine Bc (jev y _ Q8G Q8G) ?_|refine Bc (jev v _ Q8G Q8G) ?_|refine Bc (ji5 x _ bx) ?_|refine Bc (jdu x y _ bx.b16 bY.b16 bp.top) ?_|refine Bc (jdu (x*y) v _ bp.b16 bv.b16 (bp.mul bv).top) ?_|refine Bm 0 0 Q8H Q8H ?_|refine Bm 1 0 Q8H Q8H ?_|refine Bm 2 0 Q8H Q8H ?_|refine Bf Q8H ?_|refine Be Q8H ?_|refine Ba (.plain (qad _)) ?_|refine Ba xb ?_|exact Bg|fail)|refine qah Q8I ?_)
variable {n:Nat}
theorem jlu (h:n<=pw 120):n<2^125:=xR h (yN Q8H Q8H)
theorem jcl (h:n<=pw 120):isq n<=1152921504606846976:=by
 have:=qit (v:=n) (n:=1152921504606846977) (by
  refine xR h ?_;show 2^120<1152921504606846977*1152921504606846977;decide)
 omega
theorem q86 (n:Nat) (hn:n<=pw 120) (w:World):xa 240 #[wz (n:Int)] w (.tuple #[xc (isq n:Nat),xc 0]):=by
 have h1:=jcl hn;have h2:=qdm (z:=(isq n:Nat)) Q8G;have hb:Bd ((isq n:Nat):Int) 60:=Bd.og (n:=1152921504606846976) Q8G;refine qac (G:=tys) w tysOK mixed func240 Q8I Q98 Q8I ?_;repeat' (first|(refine Bb ?_;first|with_reducible (first|refine Ba Q8H ?_|refine Ba (qab _ _ _) ?_|refine Ba (qaa _ _) ?_|refine Bk ?_|refine Ba rfl ?_|refine Ba ⟨by kernel_rfl,by kernel_rfl⟩ ?_|refine Bj ?_|refine Bh ?_|refine Bi ?_)|refine Ba (qab _ _ _) ?_|refine Bc (q5y n _ (xC (jlu hn) (yN Q8H Q8H))) ?_|refine Bc (qh0 _ _ hb.top) ?_)|refine qah Q8I ?_)
 rw[h2.1,h2.2]
theorem q0f (z:Int) (h:Hp) (h0:0<=z) (hz:Bd z 120):qaf prog 240 [wz z] h (.tuple #[xc (isq z.toNat:Nat),xc 0]) [] []:=by
 obtain⟨n,rfl⟩:=yV h0;exact qai Q98 rfl (call240 _) (q86 n hz)
theorem joi (z:Int) (h:Hp) (h0:0<=z) (hz:Bd z 120):qaf prog 238 [wz z] h (.tuple #[xc (usq z.toNat:Nat),xc 0]) [] []:=by
 obtain⟨n,rfl⟩:=yV h0;exact qy9 n h (jlu hz)
theorem jcm (h' w k m far:Int) (hh:0<=h'/\h'<=281474976710656) (hw:0<=w/\w<=281474976710656) (hk:0<=k/\k<=281474976710656) (hm:0<=m/\m<=33554432) (hf:0<=far/\far<=33554432) (W:World):xa 218 #[xc h',xc w,xc k,xc m,xc far] W (.tuple #[xc (jg5 h' w k m),xc (jgi h' w far),xc 0]):=by
 have bh:Bd h' 48:=Bd.og (n:=281474976710656) Q8G;have bk:Bd k 48:=Bd.og (n:=281474976710656) Q8G;have bm:Bd m 25:=Bd.og (n:=33554432) Q8G;have bf:Bd far 25:=Bd.og (n:=33554432) Q8G;have bl:Bd (h'*m*m-k*k) 99:=Bd.sub 98 ((bh.mul bm).mul bm) (bk.mul bk);have bu:Bd (h'*far*far) 120:=((bh.mul bf).mul bf).le Q8H;have hu0:0<=h'*far*far:=xy (xy hh.1 hf.1) hf.1;have w1:IntKind.i64.wrap (h'-w)=h'-w:=jdx _ Q8G Q8G;have w2:IntKind.i64.wrap (h'+w)=h'+w:=jdx _ Q8G Q8G;unfold jg5 jgi;refine qac (G:=tys) W tysOK mixed func218 Q8I Q8I Q8I ?_;by_cases h1:0<h'-w
 ·rw[if_pos h1];by_cases h2:0<h'*m*m-k*k
  ·rw[if_pos h2];repeat' (first|(refine Bb ?_;first|with_reducible (first|refine Ba Q8H ?_|refine Ba (qab _ _ _) ?_|refine Ba (qaa _ _) ?_|refine Bk ?_|refine Ba rfl ?_|refine Ba ⟨by kernel_rfl,by kernel_rfl⟩ ?_|refine Bj ?_|refine Bh ?_|refine Bi ?_)|refine Bc Q7Y ?_|refine Bc Q8n ?_|refine Bc (qm1 h' far far 15 _ _ Q8G Q8G Q8G Q8I) ?_|refine Bc (jeg (h'*m*m) (k*k) _ ((bh.mul bm).mul bm).top (bk.mul bk).top bl.top) ?_|refine Bc (jeh (h'*m*m-k*k) _ bl.top) ?_|refine Bc (q0f (h'*m*m-k*k) _ Q8G (bl.le Q8H)) ?_|refine Bc (joi (h'*far*far) _ hu0 bu) ?_|with_reducible (first|refine N.max2 ?_|refine B8 ?_)|refine Be Q8H ?_|refine Bf (by rw[xh,w1];exact h1) ?_|refine Bf (by rw[xh];exact(qog _).2 h2) ?_)|refine qah Q8I ?_)
   rw[w1,w2]
  ·rw[if_neg h2];repeat' (first|(refine Bb ?_;first|with_reducible (first|refine Ba Q8H ?_|refine Ba (qab _ _ _) ?_|refine Ba (qaa _ _) ?_|refine Bk ?_|refine Ba rfl ?_|refine Ba ⟨by kernel_rfl,by kernel_rfl⟩ ?_|refine Bj ?_|refine Bh ?_|refine Bi ?_)|refine Bc Q7Y ?_|refine Bc Q8n ?_|refine Bc (qm1 h' far far 15 _ _ Q8G Q8G Q8G Q8I) ?_|refine Bc (jeg (h'*m*m) (k*k) _ ((bh.mul bm).mul bm).top (bk.mul bk).top bl.top) ?_|refine Bc (jeh (h'*m*m-k*k) _ bl.top) ?_|refine Bc (q0f (h'*m*m-k*k) _ Q8G (bl.le Q8H)) ?_|refine Bc (joi (h'*far*far) _ hu0 bu) ?_|with_reducible (first|refine N.max2 ?_|refine B8 ?_)|refine Be Q8H ?_|refine Bf (by rw[xh,w1];exact h1) ?_|refine Be (by rw[xk];exact fun h=>h2 ((qog _).1 h)) ?_)|refine qah Q8I ?_)
   rw[w1,w2]
 ·rw[if_neg h1];repeat' (first|(refine Bb ?_;first|with_reducible (first|refine Ba Q8H ?_|refine Ba (qab _ _ _) ?_|refine Ba (qaa _ _) ?_|refine Bk ?_|refine Ba rfl ?_|refine Ba ⟨by kernel_rfl,by kernel_rfl⟩ ?_|refine Bj ?_|refine Bh ?_|refine Bi ?_)|refine Bc Q7Y ?_|refine Bc Q8n ?_|refine Bc (qm1 h' far far 0 _ _ Q8G Q8G Q8G Q8I) ?_|refine Bc (jeg (h'*m*m) (k*k) _ ((bh.mul bm).mul bm).top (bk.mul bk).top bl.top) ?_|refine Bc (jeh (h'*m*m-k*k) _ bl.top) ?_|refine Bc (q0f (h'*m*m-k*k) _ Q8G (bl.le Q8H)) ?_|refine Bc (joi (h'*far*far) _ hu0 bu) ?_|with_reducible (first|refine N.max2 ?_|refine B8 ?_)|refine Be Q8H ?_|refine Be (by rw[xk,w1];exact h1) ?_)|refine qah Q8I ?_)
  rw[w1,w2]
theorem joj (h' w k m far:Int) (h:Hp) (hh:0<=h'/\h'<=281474976710656) (hw:0<=w/\w<=281474976710656) (hk:0<=k/\k<=281474976710656) (hm:0<=m/\m<=33554432) (hf:0<=far/\far<=33554432):qaf prog 218 [xc h',xc w,xc k,xc m,xc far] h (.tuple #[xc (jg5 h' w k m),xc (jgi h' w far),xc 0]) [] []:=
 qai rfl rfl (call218 _) (jcm h' w k m far hh hw hk hm hf)
theorem jcn (lo hi:Int) (W:World):xa 197 #[xc lo,xc hi] W (.bool (decide (jfy lo hi))):=by
 refine qac (G:=tys) W tysOK mixed func197 Q8I Q8I Q8I ?_;repeat' (refine Bb ?_;first|refine Q55 ?_|with_reducible refine Bp (fun hb=>?_) (fun hb=>?_)|fail)
 all_goals
  refine jfk ?_
  unfold jfy
  simp only[xh,xk,xJ,false_iff,true_iff,iff_true,iff_false,reduceCtorEq,yq,xK,yr,yb] at *
  omega
theorem je6 (lo hi:Int) (h:Hp):qaf prog 197 [xc lo,xc hi] h (.bool (decide (jfy lo hi))) [] []:=
 qai rfl rfl (call197 _) (jcn lo hi)
variable {e:El} {x:Int}
theorem qu1 (he:e.may) {y:Int} (hx : -8388608<=x/\x<=8388608) (hy : -8388608<=y/\y<=8388608):0<=qdn e x y/\qdn e x y<=281474976710656:=by
 unfold El.may jed at he;have bx:x*x<=70368744177664:=by
  have:=xy (by omega:0<=8388608-x) (by omega:0<=8388608+x);have e1:(8388608-x)*(8388608+x)=70368744177664-x*x:=by grind
  omega
 have by':y*y<=70368744177664:=by
  have:=xy (by omega:0<=8388608-y) (by omega:0<=8388608+y);have e1:(8388608-y)*(8388608+y)=70368744177664-y*y:=by grind
  omega
 have bxy : -70368744177664<=x*y/\x*y<=70368744177664:=by
  have h1:=jea (x+y);have h2:=jea (x-y);have e1:(x+y)*(x+y)=x*x+2*(x*y)+y*y:=by grind
  have e2:(x-y)*(x-y)=x*x-2*(x*y)+y*y:=by grind
  omega
 have q1:e.a*(x*x)<=70368744177664*70368744177664:=xS Q8G bx (jea x) Q8G;have q2:e.d*(y*y)<=70368744177664*70368744177664:=xS Q8G by' (jea y) Q8G;have q3:e.b*(x*y)<=70368744177664*70368744177664:=by
  have h1:=zv e.b (x*y);have h2:e.b.natAbs*(x*y).natAbs<=70368744177664*70368744177664:=yC Q8G Q8G;omega
 unfold qdn;refine⟨by omega,?_⟩;have hq:(jel e.a e.b e.d x y).toNat<=281474976710656*281474976710656:=by unfold jel;omega
 have:=quk hq;omega
theorem qu2 (h' w k m far h1 m1 f1:Int) (h:Hp) (e1:h1=h') (e2:m1=m) (e3:f1=far) (hh:0<=h'/\h'<=281474976710656) (hw:0<=w/\w<=281474976710656) (hk:0<=k/\k<=281474976710656) (hm:0<=m/\m<=33554432) (hf:0<=far/\far<=33554432):qaf prog 218 [xc h1,xc w,xc k,xc m1,xc f1] h (.tuple #[xc (jg5 h' w k m),xc (jgi h' w far),xc 0]) [] []:=by
 subst e1 e2 e3;exact joj _ w k _ _ h hh hw hk hm hf
theorem qgt (e:El) (x y x1 y1:Int) (h:Hp) (e1:x1=x) (e2:y1=y) (he:e.may) (hw:qax 16777216 x y):qaf prog 217 [elE e,.agg #[xc x1,xc y1]] h (.tuple #[xc (qdn e x y),xc 0]) [] []:=by
 subst e1 e2;exact q77 e.x e.y e.a e.b e.d _ _ h he hw
theorem jew (e:El) (h:Hp):qaf prog 198 [elE e] h (xc (e.rad:Nat)) [] []:=qsp e.x e.y e.a e.b e.d h
theorem jco (e n:El) (lo hi:Int) (he:e.may) (hn:n.may) (hd:jfy lo hi) (W:World):xa 199 #[elE e,elE n,xc lo,xc hi] W (.tuple #[stV (jd7 e n lo hi).1,xc (jd7 e n lo hi).2]):=by
 have hr:=(qlo hn).2.1;have he2:=he;have hn2:=hn;have hd2:=hd;unfold El.may jed qax at he2 hn2;unfold jfy at hd2;have w1:IntKind.i64.wrap (e.x-n.x)=e.x-n.x:=jdx _ Q8G Q8G;have w2:IntKind.i64.wrap (e.y-n.y)=e.y-n.y:=jdx _ Q8G Q8G;have w3:IntKind.i64.wrap (0-(e.y-n.y)) = -(e.y-n.y):=by rw[jdx _ Q8G Q8G];omega
 have qx:(e.x-n.x)*(e.x-n.x)<=70368744177664:=by
  have:=xy (by omega:0<=8388608-(e.x-n.x)) (by omega:0<=8388608+(e.x-n.x));have e1:(8388608-(e.x-n.x))*(8388608+(e.x-n.x))=70368744177664-(e.x-n.x)*(e.x-n.x):=by grind
  omega
 have qy:(e.y-n.y)*(e.y-n.y)<=70368744177664:=by
  have:=xy (by omega:0<=8388608-(e.y-n.y)) (by omega:0<=8388608+(e.y-n.y));have e1:(8388608-(e.y-n.y))*(8388608+(e.y-n.y))=70368744177664-(e.y-n.y)*(e.y-n.y):=by grind
  omega
 have q0:=jea (e.x-n.x);have q1:=jea (e.y-n.y);have w4:IntKind.i64.wrap (IntKind.i64.wrap ((e.x-n.x)*(e.x-n.x))+IntKind.i64.wrap ((e.y-n.y)*(e.y-n.y)))=(e.x-n.x)*(e.x-n.x)+(e.y-n.y)*(e.y-n.y):=by
  rw[jdx ((e.x-n.x)*(e.x-n.x)) Q8G Q8G,jdx ((e.y-n.y)*(e.y-n.y)) Q8G Q8G,jdx _ Q8G Q8G]
 have w5:IntKind.i64.wrap (lo-n.rad)=lo-n.rad:=jdx _ Q8G Q8G;have w6:IntKind.i64.wrap (hi+n.rad)=hi+n.rad:=jdx _ Q8G Q8G;have b1:=qu1 he (x:=e.x-n.x) (y:=e.y-n.y) Q8G Q8G;have b2:=qu1 he (x:=-(e.y-n.y)) (y:=e.x-n.x) Q8G Q8G;have ew:qax 16777216 (e.x-n.x) (e.y-n.y):=by unfold qax;omega
 have ew2:qax 16777216 (-(e.y-n.y)) (e.x-n.x):=by unfold qax;omega
 unfold jd7;rw[if_neg (fun h=>h ⟨he,hn,hd⟩)];by_cases h0:e.x-n.x=0/\e.y-n.y=0
 ·rw[if_pos h0];refine Q3t ?_
  repeat' (first|(refine Bb ?_;first|with_reducible (first|refine Ba Q8H ?_|refine Ba (qab _ _ _) ?_|refine Ba (qaa _ _) ?_|refine Bk ?_|refine Ba rfl ?_|refine Ba ⟨by kernel_rfl,by kernel_rfl⟩ ?_|refine Bj ?_|refine Bh ?_|refine Bi ?_)|refine Bc (jd6 _ _ _ _ _ _) ?_|refine Bc (je6 _ _ _) ?_|refine Be (ndF he) ?_|refine Be (ndF hn) ?_|refine Be (ndF hd) ?_|refine B6 _ (qux _ _ _ _ _ _) ?_|refine Bc (jew n _) ?_|refine Bc (qgt e (e.x-n.x) (e.y-n.y) _ _ _ w1 w2 he ew) ?_|refine Bc (qgt e (-(e.y-n.y)) (e.x-n.x) _ _ _ Qab w1 he ew2) ?_|refine Bc (qu2 ((e.x-n.x)*(e.x-n.x)+(e.y-n.y)*(e.y-n.y)) _ _ (max 0 (lo-n.rad)) (hi+n.rad) _ _ _ _ Qa1 (by rw[w5]) w6 Q8G b1 b2 Q8G Q8G) ?_|with_reducible (first|refine N.max2 ?_|refine N.max3 ?_)|refine Be Q8H ?_|refine Bf (by rw[w1,w2,h0.1,h0.2];rfl) ?_)|refine qah Q8I ?_)
  all_goals rfl
 rw[if_neg h0];have h0':((IntKind.i64.wrap (e.x-n.x)==0)&&(IntKind.i64.wrap (e.y-n.y)==0))=false:=by
  rw[w1,w2];by_cases hx:e.x-n.x=0
  ·have:¬ e.y-n.y=0:=fun h=>h0 ⟨hx,h⟩
   simp[this]
  ·simp[hx]
 by_cases h1:(jek e n lo hi).hi<(jek e n lo hi).lo
 ·rw[if_pos h1];refine Q3t ?_
  repeat' (first|(refine Bb ?_;first|with_reducible (first|refine Ba Q8H ?_|refine Ba (qab _ _ _) ?_|refine Ba (qaa _ _) ?_|refine Bk ?_|refine Ba rfl ?_|refine Ba ⟨by kernel_rfl,by kernel_rfl⟩ ?_|refine Bj ?_|refine Bh ?_|refine Bi ?_)|refine Bc (jd6 _ _ _ _ _ _) ?_|refine Bc (je6 _ _ _) ?_|refine Be (ndF he) ?_|refine Be (ndF hn) ?_|refine Be (ndF hd) ?_|refine B6 _ (qux _ _ _ _ _ _) ?_|refine Bc (jew n _) ?_|refine Bc (qgt e (e.x-n.x) (e.y-n.y) _ _ _ w1 w2 he ew) ?_|refine Bc (qgt e (-(e.y-n.y)) (e.x-n.x) _ _ _ Qab w1 he ew2) ?_|refine Bc (qu2 ((e.x-n.x)*(e.x-n.x)+(e.y-n.y)*(e.y-n.y)) _ _ (max 0 (lo-n.rad)) (hi+n.rad) _ _ _ _ Qa1 (by rw[w5]) w6 Q8G b1 b2 Q8G Q8G) ?_|with_reducible (first|refine N.max2 ?_|refine N.max3 ?_)|refine Be Q8H ?_|refine Be h0' ?_|refine Bf (by rw[xh];exact h1) ?_)|refine qah Q8I ?_)
  all_goals rfl
 rw[if_neg h1];by_cases h2:(jek e n lo hi).hi=(jek e n lo hi).lo
 ·rw[if_pos h2];have hlo:(jek e n lo hi).hi<=562949953421312:=by
   unfold jek jgi;show min _ _<=_;omega
  have hlo2 : -562949953421312<=(jek e n lo hi).hi:=by
   unfold jek jgi;show _<=min _ _;omega
  have w7:IntKind.i64.wrap ((jek e n lo hi).hi+1)=(jek e n lo hi).hi+1:=jdx _ Q8G Q8G;refine Q3t ?_
  repeat' (first|(refine Bb ?_;first|with_reducible (first|refine Ba Q8H ?_|refine Ba (qab _ _ _) ?_|refine Ba (qaa _ _) ?_|refine Bk ?_|refine Ba rfl ?_|refine Ba ⟨by kernel_rfl,by kernel_rfl⟩ ?_|refine Bj ?_|refine Bh ?_|refine Bi ?_)|refine Bc (jd6 _ _ _ _ _ _) ?_|refine Bc (je6 _ _ _) ?_|refine Be (ndF he) ?_|refine Be (ndF hn) ?_|refine Be (ndF hd) ?_|refine B6 _ (qux _ _ _ _ _ _) ?_|refine Bc (jew n _) ?_|refine Bc (qgt e (e.x-n.x) (e.y-n.y) _ _ _ w1 w2 he ew) ?_|refine Bc (qgt e (-(e.y-n.y)) (e.x-n.x) _ _ _ Qab w1 he ew2) ?_|refine Bc (qu2 ((e.x-n.x)*(e.x-n.x)+(e.y-n.y)*(e.y-n.y)) _ _ (max 0 (lo-n.rad)) (hi+n.rad) _ _ _ _ Qa1 (by rw[w5]) w6 Q8G b1 b2 Q8G Q8G) ?_|with_reducible (first|refine N.max2 ?_|refine N.max3 ?_)|refine Be Q8H ?_|refine Be h0' ?_|refine Be (by rw[xk];exact h1) ?_|refine Bf (by rw[yj];exact h2) ?_)|refine qah Q8I ?_)
  rw[w1,w2];exact congrArg (fun z=>Value.tuple #[.agg #[xc n.x,xc n.y,xc (e.x-n.x),xc (e.y-n.y),xc (jek e n lo hi).lo,xc z],xc 0]) w7
 ·rw[if_neg h2];refine Q3t ?_
  repeat' (first|(refine Bb ?_;first|with_reducible (first|refine Ba Q8H ?_|refine Ba (qab _ _ _) ?_|refine Ba (qaa _ _) ?_|refine Bk ?_|refine Ba rfl ?_|refine Ba ⟨by kernel_rfl,by kernel_rfl⟩ ?_|refine Bj ?_|refine Bh ?_|refine Bi ?_)|refine Bc (jd6 _ _ _ _ _ _) ?_|refine Bc (je6 _ _ _) ?_|refine Be (ndF he) ?_|refine Be (ndF hn) ?_|refine Be (ndF hd) ?_|refine B6 _ (qux _ _ _ _ _ _) ?_|refine Bc (jew n _) ?_|refine Bc (qgt e (e.x-n.x) (e.y-n.y) _ _ _ w1 w2 he ew) ?_|refine Bc (qgt e (-(e.y-n.y)) (e.x-n.x) _ _ _ Qab w1 he ew2) ?_|refine Bc (qu2 ((e.x-n.x)*(e.x-n.x)+(e.y-n.y)*(e.y-n.y)) _ _ (max 0 (lo-n.rad)) (hi+n.rad) _ _ _ _ Qa1 (by rw[w5]) w6 Q8G b1 b2 Q8G Q8G) ?_|with_reducible (first|refine N.max2 ?_|refine N.max3 ?_)|refine Be Q8H ?_|refine Be h0' ?_|refine Be (by rw[xk];exact h1) ?_|refine Be (by rw[beq_eq_false_iff_ne];exact h2) ?_)|refine qah Q8I ?_)
  rw[w1,w2];rfl
theorem jgb (e n:El) (lo hi:Int) (h:Hp) (he:e.may) (hn:n.may) (hd:jfy lo hi):qaf prog 199 [elE e,elE n,xc lo,xc hi] h (.tuple #[stV (jd7 e n lo hi).1,xc (jd7 e n lo hi).2]) [] []:=
 qai rfl rfl (call199 _) (jco e n lo hi he hn hd)
open Go Go.RowKit Sx
def je3 (x:Int):Nat->Value
 | _=>.int .i64 x
theorem qj1 (x:Int) (k:Nat):qbd (je3 x k)=true:=by unfold je3;split<;>rfl
theorem qrd (x:Int) {k:Nat} (h:k<1):cellIn (.agg #[xc x]) k=je3 x k:=by
 match k,h with
 | 0,_=>rfl
theorem qsw (j:Nat):jfi 1 (.agg #[xc 0]) j=je3 (0) (j%1):=by
 unfold jfi;have h:j%1<1:=xv _ Q8H;generalize j%1=k at h
 match k,h with
 | 0,_=>rfl
abbrev riC (o:Bool) (c:Nat) (T:Nat->Int):Chunk:=⟨o,c*1,[(0,c*1,.agg ⟨segL (c*1) (fun j=>je3 (T (j / 1)) (j%1))⟩)]⟩
variable {j:Nat} {T:Nat->Int}
theorem jko {o:Bool} (h:j<c*1):(riC o c T).f j=je3 (T (j / 1)) (j%1):=qbq h
variable {ix:List (Nat×Nat)}
theorem q6h {o o':Bool} {T':Nat->Int} (h:∀ i,i<c->T i=T' i):qbb ix (riC o c T) (riC o' c T'):=fun j hj=>by
 have hj:j<c*1:=hj;rw[qbq hj,qbq hj,h (j / 1) Q8G];exact .plain (qj1 _ _)
theorem q39 {T':Nat->Int} {hp:Hp} (h:∀ i,i<c->T i=T' i) (hh:hp[n]?=some (some (riC true c T'))):PostC ix hp n (riC true c T):=⟨_,hh,id,nlr _,q6h h⟩
theorem q0g {T':Nat->Int} (h:∀ i,i<c->T i=T' i):ChunkReLe ix (riC true c T) (riC true c T'):=⟨id,nlr _,q6h h⟩
def setri (T:Nat->Int) (l:Nat) (x:Int) (i:Nat):Int:=if i=l then x else T i
theorem jkp {l p:Nat} (h:l<c) (e:p=l*1):Writes (riC true c T) p (1*1) (.agg #[xc x]) (riC true c (setri T l x)):=by
 subst e;refine⟨rfl,by show l*1+1*1<=c*1;omega,rfl,fun j hj=>?_⟩;have hj:j<c*1:=hj;rw[qbq hj,qbq hj];unfold setri;by_cases e:l*1<=j/\j<l*1+1*1
 ·rw[if_pos e,if_pos Q8G,qrd _ Q8G];congr 1;omega
 ·rw[if_neg e,if_neg Q8G]
def jgv (T:Nat->Int) (l:Nat) (x:Int) (i:Nat):Int:=if i<l then T i else if i=l then x else 0
variable {cap:Nat}
theorem q4a {ci:Chunk} {l:Nat} (h:l<cap) (hc:∀ j,j<l*1->ci.f j=je3 (T (j / 1)) (j%1)) (hj:j<cap*1):(grown ci l 1 1 (.agg #[xc x]) (.agg #[xc 0]) cap).f j=je3 (jgv T l x (j / 1)) (j%1):=by
 unfold jgv;by_cases h1:j<l*1
 ·exact Q4V
 ·rw[if_neg Q8G];by_cases h2:j<(l+1)*1
  ·have:=qgd (ci:=ci) (l:=l) (m:=1) (size:=1) (cap:=cap) (v:=.agg #[xc x]) (z:=.agg #[xc 0]) (j:=j-l*1) Q8G;rw[show l*1+(j-l*1)=j from by omega] at this;rw[this,if_pos Q8G,qrd _ Q8G];congr 1;omega
  ·rw[qfk Q8G hj,if_neg Q8G];exact qsw j
theorem qls {ci:Chunk} {l:Nat} {T':Nat->Int} (h:l<cap) (hc:∀ j,j<l*1->ci.f j=je3 (T (j / 1)) (j%1)) (he:∀ i,i<cap->T' i=jgv T l x i):ChunkReLe ix (riC true cap T') (grown ci l 1 1 (.agg #[xc x]) (.agg #[xc 0]) cap):=
 ⟨fun _=>rfl,by show cap*1<=cap*1;omega,fun j hj=>by
  have hj:j<cap*1:=hj;rw[qbq hj,q4a h hc hj,he _ Q8G];exact .plain (qj1 _ _)⟩
theorem qgu {T:Tbl}:ChunkReLe ix (tblC T) (tblC T):=⟨id,nlr _,nzj⟩
abbrev rl (R:List Int) (c:Nat):Chunk:=riC true c (fun i=>R.getD i 0)
theorem q0h (S:List Int) (x:Int):setri (fun i=>S.getD i 0) S.length x=fun i=>(S++[x]).getD i 0:=by
 funext i;unfold setri;by_cases h:i=S.length
 ·rw[if_pos h];simp[h]
 ·rw[if_neg h];by_cases h2:i<S.length
  ·simp[xD,yF h2]
  ·simp[xD,ye (l:=S) (i:=i) Q8G,ye (l:=S++[x]) (i:=i) Q9j]
theorem qu3 (S:List Int) (x:Int) (i:Nat):(S++[x]).getD i 0=jgv (fun i=>S.getD i 0) S.length x i:=by
 rw[<-congrFun (q0h S x) i];unfold setri jgv;by_cases h:i<S.length
 ·rw[if_neg Q8G,if_pos h]
 ·rw[if_neg h];by_cases h2:i=S.length
  ·rw[if_pos h2,if_pos h2]
  ·rw[if_neg h2,if_neg h2];simp[xD,ye (l:=S) (i:=i) Q8G]
theorem qm2 {S S':List Int} (e:S'=S):ChunkReLe ix (rl S' c) (rl S c):=by subst e;exact q0g fun _ _=>rfl
theorem qor {S S':List Int} (e:S'=S++[x]):ChunkReLe ix (rl S' c) (riC true c (setri (fun i=>S.getD i 0) S.length x)):=by subst e;rw[q0h];exact q0g fun _ _=>rfl
theorem qki {S S':List Int} (e:S'=S++[x]) (h:S.length<cap) (hc:S.length<=c):ChunkReLe ix (rl S' cap) (grown (rl S c) S.length 1 1 (.agg #[xc x]) (.agg #[xc 0]) cap):=by
 subst e;exact qls h (fun j hj=>jko Q8G) fun i _=>qu3 S x i
theorem qdo {i l l':Nat} (e:l'=l) (h:ixK ix i=some j):Re ix (.slice (some ⟨j,0,some 0⟩) l' c) (.slice (some ⟨i,0,some 0⟩) l c):=by subst e;exact .one (.slice h)
def evP (now silent:Int) (x:Ent):Bool:=decide (max 1 silent<=now)&&decide (x.heard<=now-max 1 silent)
def evL (E:Ez) (p:Ent->Bool):Nat->List Int
 | 0=>[]
 | r+1=>if p (entT E r)=true then evL E p r++[(entT E r).node] else evL E p r
def evE (E:Ez) (p:Ent->Bool):Nat->Ez
 | 0=>E
 | r+1=>if p (entT E r)=true then jfu (evE E p r) (entT E r).node else evE E p r
theorem qi3 (E:Ez) (p:Ent->Bool):∀ r,(evL E p r).length<=r
 | 0=>nlr _
 | r+1=>by
  unfold evL;split
  ·rw[xt];have:=qi3 E p r;simp only[xQ,x5];omega
  ·have:=qi3 E p r;omega
def Tbl.ev (T:Tbl) (now silent:Int):Tbl:=⟨T.most,evE T.E (evP now silent) T.E.length,T.lives⟩
def qj2 (T:Tbl) (now silent:Int):List Int:=evL T.E (evP now silent) T.E.length
def evR (T':Tbl) (L:List Int) (i k:Nat) (v:Value) (ms:Mz):Prop:=
 (L=[]/\v=.slice none 0 0/\ms=[(i,tblC T')])\/∃ cap,0<L.length/\L.length<=cap/\v=.slice (some ⟨k,0,some 0⟩) L.length cap/\ms=[(i,tblC T'),(k,rl L cap)]
def jlv (silent:Int) (r:Nat):Int:=if r=0 then silent else max 1 silent
theorem q0i (silent:Int) (r:Nat):max 1 (jlv silent r)=max 1 silent:=by unfold jlv;split<;>omega
theorem q0j {E:Ez} {r p m:Nat} (hr:r<n) (hc:n<=cap) (hm:m=10) (hp:p=r*10):Reads (enC true cap (fun i=>if i<n then entT E i else Ent.zero)) p true m (entV (entT E r)):=by
 have h:=jit (o:=true) (c:=cap) (T:=fun i=>if i<n then entT E i else Ent.zero) r hm Q8G hp;simp only[if_pos hr] at h;exact h
variable {h:Hp}
theorem q87 {S:List Int} (hj:j<c*1):Safe1 h ((rl S c).f j):=by
 rw[jko hj];trivial
theorem qi4 {S':List Int} (e:S'=[]++[x]) (h:0<cap):ChunkReLe ix (rl S' cap) (grown ⟨true,0,[]⟩ 0 1 1 (.agg #[xc x]) (.agg #[xc 0]) cap):=by
 subst e;exact qls (T:=fun _=>0) h (fun j hj=>absurd hj Q8G) fun i _=>qu3 [] x i
inductive EvS where
 | no (r:Nat)
 | yes (r c:Nat)
def EvS.r:EvS->Nat
 | .no r=>r
 | .yes r _=>r
def jqq (T:Tbl) (now silent:Int):EvS->Prop
 | .no r=>r<=T.E.length/\evL T.E (evP now silent) r=[]
 | .yes r c=>r<=T.E.length/\0<(evL T.E (evP now silent) r).length/\(evL T.E (evP now silent) r).length<=c
@[reducible] def evSet (T:Tbl) (now silent:Int):EvS->Vz
 | .no r=>[(13,.int .i64 (r:Int)),(7,.slice none 0 0),(2,.int .i64 (jlv silent r))]
 | .yes r c=>[(13,.int .i64 (r:Int)),(7,.slice (some ⟨4,0,some 0⟩) (evL T.E (evP now silent) r).length c),(2,.int .i64 (jlv silent r))]
@[reducible] def evHs (T:Tbl) (now silent:Int):EvS->Mz
 | .no r=>[(1,mapC entV (evE T.E (evP now silent) r))]
 | .yes r c=>[(1,mapC entV (evE T.E (evP now silent) r)),(4,rl (evL T.E (evP now silent) r) c)]
theorem jcp (T:Tbl) (hE:T.E.length<=64) (now silent:Int) (hnow:now<9223372036854775808) (hsl : -9223372036854775808<=silent/\silent<9223372036854775808) (i K:Nat) (h:Hp) (hi:h[i]?=some (some (tblC T))) (hK:h[K]?=some none) :
  CallAll prog 37 [xd i,xc now,xc silent] h (evR (T.ev now silent) (qj2 T now silent) i K):=by
 have key:=qaw (G:=tys) (h:=h) (vs:=[xd i,.int .i64 now,.int .i64 silent]) (qa4 T.lives) (jfw T) (α:=Option Nat) (fun κ=>match κ with|none=>qj2 T now silent=[]|some cap=>0<(qj2 T now silent).length/\(qj2 T now silent).length<=cap) (fun κ=>match κ with|none=>.slice none 0 0|some cap=>.slice (some ⟨K,0,some 0⟩) (qj2 T now silent).length cap) [⟨i,tblC T,tblC T,tblC (T.ev now silent)⟩] (fun _=>[tblC (T.ev now silent)])
  (fun κ=>match κ with|none=>[]|some cap=>[⟨K,4,rl (qj2 T now silent) cap⟩]) [xd 0,xc now,xc silent] tysOK mixed func37 Q8I (call37) ⟨hi,xb⟩ ⟨Q6w,xb⟩ Q88 Q8N Q6A (fun κ hκ=>by
   cases κ with
   | none=>exact trivial
   | some cap=>exact⟨⟨hK,rfl,.inl (by show 0<cap*1;have:=hκ.1;have:=hκ.2;omega),by simp⟩,xb⟩) ⟨.ptr rfl,.plain rfl,.plain rfl,xb⟩ qas ?_
 ·exact Q1M
 intro β hβ
 repeat' (refine Bb ?_;first|refine Q56 ?_|refine Q5l ?_|fail)
 refine Bb ?_
 refine Bl (jj9 _ _ _ T.E hE 0 1 2 3 _ Q8I Q8I Q8H Q8I) fun v ms hR=>?_
 rcases hR with ⟨hE0,rfl,rfl⟩|⟨ce,hpos,hce,rfl,rfl⟩
 ·have hl0:T.E.length=0:=by rw[hE0];rfl
  have hEv:(T.ev now silent).E=T.E:=by unfold Tbl.ev;rw[hl0];rfl
  have hLv:qj2 T now silent=[]:=by unfold qj2;rw[hl0];rfl
  refine Q1C ?_;refine Bu 1 ?_;refine Q1C ?_;refine qb5 (T.ev now silent) β 0 1 2 [] qbv Q6C hβ Q8I Q8I Q8I Q8I Q8I Q8I Q8I (by rw[hEv];rfl) Q8I Q8H (fun k hk=>by cases hk) jgh (qbn rfl) ?_;refine Bo none ⟨hLv,?_⟩;exact Q2c
 ·refine Q1C ?_;refine Bw (α:=EvS) (jqq T now silent) (fun s=>T.E.length-s.r) (evSet T now silent) (evHs T now silent) (.no 0) [(0,0),(1,1),(2,2),(3,3)] ⟨xm _,rfl⟩ ?_ ?_
  ·repeat' (refine Bb ?_;first|refine Q56 ?_|exact Bg|refine Q5i ?_|refine Q5Q ?_|fail)
  ·intro s hs;have hr:s.r<=T.E.length:=by cases s<;>exact hs.1
   by_cases hlt:s.r<T.E.length
   ·cases s with
    | no r=>
     obtain⟨r1,r2⟩:=hs;have hlt:r<T.E.length:=hlt;have r2:evL T.E (evP now silent) r=[]:=r2;refine Q2I ?_;by_cases hp:evP now silent (entT T.E r)=true
     ·have e1:evL T.E (evP now silent) (r+1)=evL T.E (evP now silent) r++[(entT T.E r).node]:=if_pos hp;have e2:evE T.E (evP now silent) (r+1)=jfu (evE T.E (evP now silent) r) (entT T.E r).node:=if_pos hp;obtain⟨h1,h2⟩:max 1 silent<=now/\(entT T.E r).heard<=now-max 1 silent:=by unfold evP at hp;simpa using hp
      have hw:IntKind.i64.wrap (now-max 1 silent)=now-max 1 silent:=jdx _ Q8G Q8G;refine Q0l ?_;refine qfu (.agg #[xc (entT T.E r).node]) Q7z Q8H Q8H Q8H fun cap hcap=>?_
      refine Q1x ?_;rw[r2] at e1;refine Br (α:=EvS) (.yes (r+1) cap) [(0,0),(1,1),(2,2),(3,3),(6,4)] (And.intro ⟨hlt,by show 0<(evL T.E (evP now silent) (r+1)).length;rw[e1];exact nlr _,by show(evL T.E (evP now silent) (r+1)).length<=cap;rw[e1];exact hcap⟩ Q8Z) ?_;repeat' (refine Bb ?_;first|refine Q56 ?_|refine Ba Q6H ?_|refine Q5X ?_|refine Ba (qdo (by show(evL T.E (evP now silent) (r+1)).length=_;rw[e1];rfl) Q8I) ?_|refine Ba Q93 ?_|refine Ba (qi4 e1 hcap) ?_|exact Bg|refine Q5i ?_|refine Q5Q ?_|fail)
     ·have e1:evL T.E (evP now silent) (r+1)=evL T.E (evP now silent) r:=if_neg hp;have e2:evE T.E (evP now silent) (r+1)=evE T.E (evP now silent) r:=if_neg hp;by_cases h1:max 1 silent<=now
      ·have hw:IntKind.i64.wrap (now-max 1 silent)=now-max 1 silent:=jdx _ Q8G Q8G;have h2:¬ (entT T.E r).heard<=now-max 1 silent:=fun h2=>hp (by unfold evP;simp[h1,h2])
       exact Q2P
      ·exact Q2P
    | yes r c=>
     obtain⟨r1,r2,r3⟩:=hs;have hlt:r<T.E.length:=hlt;have r2:0<(evL T.E (evP now silent) r).length:=r2;have r3:(evL T.E (evP now silent) r).length<=c:=r3;have r4:=qi3 T.E (evP now silent) r;refine Q2I ?_;by_cases hp:evP now silent (entT T.E r)=true
     ·have e1:evL T.E (evP now silent) (r+1)=evL T.E (evP now silent) r++[(entT T.E r).node]:=if_pos hp;have e2:evE T.E (evP now silent) (r+1)=jfu (evE T.E (evP now silent) r) (entT T.E r).node:=if_pos hp;obtain⟨h1,h2⟩:max 1 silent<=now/\(entT T.E r).heard<=now-max 1 silent:=by unfold evP at hp;simpa using hp
      have hw:IntKind.i64.wrap (now-max 1 silent)=now-max 1 silent:=jdx _ Q8G Q8G;refine Q0l ?_;refine qk8 (.agg #[xc (entT T.E r).node]) Q7z Q8I (by show _*1<=c*1;omega) Q8G Qaf (riC true c (setri (fun i=>(evL T.E (evP now silent) r).getD i 0) (evL T.E (evP now silent) r).length (entT T.E r).node)) (fun h=>jkp Q8G rfl) (fun hr=>?_) (fun hg2 cap hcap=>?_)
      ·refine Q1x ?_;refine Br (α:=EvS) (.yes (r+1) c) [(0,0),(1,1),(2,2),(3,3),(4,4)] (And.intro ⟨hlt,by show 0<(evL T.E (evP now silent) (r+1)).length;rw[e1,xt];exact zw _ _,by show(evL T.E (evP now silent) (r+1)).length<=c;rw[e1,xt];exact hr⟩ Q8Z) ?_;repeat' (refine Bb ?_;first|refine Q56 ?_|refine Ba Q6H ?_|refine Q5X ?_|refine Ba Q8g ?_|refine Ba Q93 ?_|refine Ba (qor e1) ?_|exact Bg|refine Q5i ?_|refine Q5Q ?_|fail)
      ·refine Q1x ?_;refine Br (α:=EvS) (.yes (r+1) cap) [(0,0),(1,1),(2,2),(3,3),(7,4)] (And.intro ⟨hlt,by show 0<(evL T.E (evP now silent) (r+1)).length;rw[e1,xt];exact zw _ _,by show(evL T.E (evP now silent) (r+1)).length<=cap;rw[e1,xt];exact hcap⟩ Q8Z) ?_;repeat' (refine Bb ?_;first|refine Q56 ?_|refine Ba Q6H ?_|refine Q5X ?_|refine Ba Q8g ?_|refine Ba Q93 ?_|refine Ba (qki e1 hcap r3) ?_|exact Bg|refine Q5i ?_|refine Q5Q ?_|fail)
     ·have e1:evL T.E (evP now silent) (r+1)=evL T.E (evP now silent) r:=if_neg hp;have e2:evE T.E (evP now silent) (r+1)=evE T.E (evP now silent) r:=if_neg hp;by_cases h1:max 1 silent<=now
      ·have hw:IntKind.i64.wrap (now-max 1 silent)=now-max 1 silent:=jdx _ Q8G Q8G;have h2:¬ (entT T.E r).heard<=now-max 1 silent:=fun h2=>hp (by unfold evP;simp[h1,h2])
       exact Q2n
      ·exact Q2n
   ·cases s with
    | no r=>
     obtain⟨r1,r2⟩:=hs;have hr:r<=T.E.length:=hr;have hlt:¬ r<T.E.length:=hlt;obtain rfl:r=T.E.length:=by omega
     refine Q3r ?_;refine Q1p ?_;refine qb5 (T.ev now silent) β 0 1 2 [] qbv Q6C hβ Q8I Q8I Q8I Q8I Q8I Q8I Q8I Q8I Q8I Q8H (fun k hk=>by cases hk) jgh (qbn rfl) ?_;refine Bo none ⟨r2,?_⟩;exact Q2c
    | yes r c=>
     obtain⟨r1,r2,r3⟩:=hs;have hr:r<=T.E.length:=hr;have hlt:¬ r<T.E.length:=hlt;obtain rfl:r=T.E.length:=by omega
     refine Q3r ?_;refine Q1p ?_;refine qb5 (T.ev now silent) β 0 1 2 [4] qbv Q6C hβ Q8I Q8I Q8I Q8I Q8I Q8I Q8I Q8I Q8I Q8H (fun k hk=>by simp at hk;omega) (fun k hk d hd l hl=>?_) (fun ρ ρ' ha=>by have:=ha 4 ⟨_,rfl⟩;simp[den,den2,den1,den0,jeu,this]) ?_
     ·obtain rfl:k=4:=by simpa using hk
      obtain rfl:rl (evL T.E (evP now silent) T.E.length) c=d:=by simpa using hd
      exact q87 hl
     refine Bo (some c) ⟨⟨r2,r3⟩,?_⟩;refine Ba (.one (.slice rfl)) ?_;refine Q2q ?_;refine Ba ⟨⟨xO rfl,q39 (c:=c) (T:=fun i=>(evL T.E (evP now silent) T.E.length).getD i 0) (T':=fun i=>(evL T.E (evP now silent) T.E.length).getD i 0) (fun _ _=>rfl) Q8I⟩,xb⟩ ?_;exact Q4l
theorem ji6 (T:Tbl) (hE:T.E=[])  (i:Nat) (h:Hp) (hi:h[i]?=some (some (tblC T))) :
  qaf prog 57 [xd i] h (.slice none 0 0) [(i,tblC T)] []:=by
 refine qaq (G:=tys) (qa4 T.lives) (jfw T) [⟨i,tblC T,tblC T,tblC T⟩] [] [xd 0] tysOK mixed func57 Q8I (call57) ⟨hi,xb⟩ ⟨Q6w,xb⟩ Q8N Q6A xb ⟨.ptr rfl,xb⟩ qas ?_
 intro β hβ
 repeat' (refine Bb ?_;first|refine Q55 ?_|refine Bc (qyg 1 3 _ _ Q8I Q8I) ?_|fail)
 refine Bb ?_
 refine Bl (qnx T.E 1 3 7 _ _ Q8I rfl Q8I Q8I (by rw[hE];exact xm _)) fun v ms hR=>?_
 rcases hR with ⟨hE0,rfl,rfl⟩|⟨kc,hpos,hkc,rfl,rfl⟩
 ·refine Q2d ?_;refine Bu 1 ?_;refine Q2d ?_;exact Q2U
 ·rw[hE] at hpos;exact absurd hpos (Nat.lt_irrefl 0)
theorem q88 (T:Tbl) (hE:T.E=[]) (now silent:Int) (i:Nat) (h:Hp) (hi:h[i]?=some (some (tblC T))) :
  qaf prog 37 [xd i,xc now,xc silent] h (.slice none 0 0) [(i,tblC T)] []:=by
 refine qaq (G:=tys) (qa4 T.lives) (jfw T) [⟨i,tblC T,tblC T,tblC T⟩] [] [xd 0,xc now,xc silent] tysOK mixed func37 Q8I (call37) ⟨hi,xb⟩ ⟨Q6w,xb⟩ Q8N Q6A xb Q6G qas ?_
 intro β hβ
 repeat' (refine Bb ?_;first|refine Q55 ?_|refine Q5d ?_|fail)
 refine Bb ?_
 refine Bl (jj9 _ _ _ T.E (by rw[hE];exact xm _) 0 1 2 3 _ Q8I Q8I Q8H Q8I) fun v ms hR=>?_
 rcases hR with ⟨hE0,rfl,rfl⟩|⟨ce,hpos,hce,rfl,rfl⟩
 ·refine Q2z ?_;refine Bu 1 ?_;refine Q2z ?_;exact Q2U
 ·rw[hE] at hpos;exact absurd hpos (Nat.lt_irrefl 0)
open Go Go.RowKit Sx
theorem jcq (D:NdS) (T:Tbl) (hE:T.E=[]) (i0 i1 i2 i3 i4 i5:Nat) (h:Hp) (c0 cf cb cm:Chunk) (h0:h[i0]?=some (some c0)) (h1:h[i1]?=some (some (ndC D i2 i3 i4 i5))) (h2:h[i2]?=some (some cf)) (h3:h[i3]?=some (some (tblC T))) (h4:h[i4]?=some (some cb)) (h5:h[i5]?=some (some cm)) (hne:[i0,i1,i2,i3,i4,i5].Nodup) :
  qaf prog 42 [xd i1,xd i0] h (.tuple #[]) [(i1,ndC D i2 i3 i4 i5),(i3,tblC T)] [i0,i2,i4,i5]:=by
 refine qaq (G:=tys) (h:=h) (vs:=[xd i1,xd i0]) (fun _:Unit=>True) (fun _=>_) [⟨i0,_,noC,noC⟩,⟨i1,_,ndC D 2 3 4 5,ndC D i2 i3 i4 i5⟩,⟨i2,_,noC,noC⟩,⟨i3,tblC T,tblC T,tblC T⟩,⟨i4,_,noC,noC⟩,⟨i5,_,noC,noC⟩] [] [xd 1,xd 0] tysOK mixed func42 Q8I (call42) (⟨h0,h1,h2,h3,h4,h5,xb⟩)
  ⟨Q6B,Q6Q,Q6B,Q6w,Q6B,Q6B,xb⟩ (by
   simp only[xL,xg,xI,not_or,xK,or_false,and_true] at hne;simp[Apart];omega) ⟨.inl rfl,.inr ⟨rfl,rfl⟩,.inl rfl,.inr ⟨rfl,rfl⟩,.inl rfl,.inl rfl,xb⟩ xb ⟨.ptr Q8I,.ptr Q8I,xb⟩ Opens.same ?_
 rintro⟨⟩ -
 repeat' (refine Bb ?_;first|refine Q55 ?_|refine Bc (ji6 T hE 3 _ Q8I) ?_|refine Bc (qzo _ _) ?_|refine Q5e ?_|fail)
 refine Bb ?_
 refine Bq ?_
 refine Ba (.plain Q8I) ?_
 refine Ba ⟨Q7j,⟨_,rfl,id,nlr _,nzj⟩,xb⟩ ?_
 refine Ba xb ?_
 refine Ba Q86 ?_
 exact Bg
theorem jcr (D:NdS) (T:Tbl) (hE:T.E=[]) (i0 i1 i2 i3 i4 i5:Nat) (h:Hp) (c0 cf cb cm:Chunk) (h0:h[i0]?=some (some c0)) (h1:h[i1]?=some (some (ndC D i2 i3 i4 i5))) (h2:h[i2]?=some (some cf)) (h3:h[i3]?=some (some (tblC T))) (h4:h[i4]?=some (some cb)) (h5:h[i5]?=some (some cm)) (hne:[i0,i1,i2,i3,i4,i5].Nodup) :
  qaf prog 43 [xd i1,xd i0] h (.tuple #[]) [(i1,ndC D i2 i3 i4 i5),(i3,tblC T)] [i0,i2,i4,i5]:=by
 refine qaq (G:=tys) (h:=h) (vs:=[xd i1,xd i0]) (fun _:Unit=>True) (fun _=>_) [⟨i0,_,noC,noC⟩,⟨i1,_,ndC D 2 3 4 5,ndC D i2 i3 i4 i5⟩,⟨i2,_,noC,noC⟩,⟨i3,tblC T,tblC T,tblC T⟩,⟨i4,_,noC,noC⟩,⟨i5,_,noC,noC⟩] [] [xd 1,xd 0] tysOK mixed func43 Q8I (call43) (⟨h0,h1,h2,h3,h4,h5,xb⟩)
  ⟨Q6B,Q6Q,Q6B,Q6w,Q6B,Q6B,xb⟩ (by
   simp only[xL,xg,xI,not_or,xK,or_false,and_true] at hne;simp[Apart];omega) ⟨.inl rfl,.inr ⟨rfl,rfl⟩,.inl rfl,.inr ⟨rfl,rfl⟩,.inl rfl,.inl rfl,xb⟩ xb ⟨.ptr Q8I,.ptr Q8I,xb⟩ Opens.same ?_
 rintro⟨⟩ -
 repeat' (refine Bb ?_;first|refine Q55 ?_|refine Bu 1 ?_|refine Bc (ji6 T hE 3 _ Q8I) ?_|refine Bc (qok _ _) ?_|refine Q5b ?_|fail)
 refine Bb ?_
 refine Bq ?_
 refine Ba (.plain Q8I) ?_
 refine Ba ⟨Q7j,⟨_,rfl,id,nlr _,nzj⟩,xb⟩ ?_
 refine Ba xb ?_
 refine Ba Q86 ?_
 exact Bg
structure NSt where
 C:Nat->Int
 id:Int
 boot:Int
 seq:Int
 told:Int
 asked:Int
 bad:Int
 fm:Int
 fv:Bool
 fx:Int
 fy:Int
 fa:Int
 fb:Int
 fd:Int
 T:Tbl
 bn:Int
 bl:Int
 te:Int
 tx:Int
 S:Nat->Ses
abbrev NSt.nd (s:NSt) (g:Rz):NdS:=⟨s.C,s.id,s.boot,g,s.S,s.seq,s.told,s.asked,s.bad⟩
abbrev ndH (s:NSt) (g:Rz):Hp:=[some (ndC (s.nd g) 1 2 3 4),some (fiC s.fm s.fv s.fx s.fy s.fa s.fb s.fd),some (tblC s.T),some (twC s.bn s.bl),some (twC s.te s.tx)]
abbrev ndP (s:NSt):Chunk:=packC (fun _:Rz=>True) (ndH s)
theorem qaz {ss:List jdw} {v:Value} {K:Value->Hp->Prop} (s:NSt) (g:Rz) (m i1 i2 i3 i4:Nat) (keep:List Nat) {c c1 c3 c4:Chunk} (hpc:∀ l,(l=m\/l=i1\/l=i2\/l=i3\/l=i4)->l<ss.length->∃ s,ss[l]?=some s/\s.e.x≠Ext.none/\Selfish s.e.x) (hbs:∀ i,i<ss.length->i=m\/i∈keep)
  (hm:h[m]?=some (some c)) (ho:c.own=true) (hn:c.n=85) (hx:c.x=jd8 jem 64 g s.S) (hc:∀ j,j<85->Re1 [(0,m),(1,i1),(2,i2),(3,i3),(4,i4)] (c.f j) ((ndC (s.nd g) 1 2 3 4).f j))
  (h1:h[i1]?=some (some c1)) (ho1:c1.own=true) (hn1:c1.n=7) (hc1:∀ j,j<7->Re1 [(0,m),(1,i1),(2,i2),(3,i3),(4,i4)] (c1.f j) ((fiC s.fm s.fv s.fx s.fy s.fa s.fb s.fd).f j))
  (h2:h[i2]?=some (some (tblC s.T)))
  (h3:h[i3]?=some (some c3)) (ho3:c3.own=true) (hn3:c3.n=2) (hc3:∀ j,j<2->Re1 [(0,m),(1,i1),(2,i2),(3,i3),(4,i4)] (c3.f j) ((twC s.bn s.bl).f j))
  (h4:h[i4]?=some (some c4)) (ho4:c4.own=true) (hn4:c4.n=2) (hc4:∀ j,j<2->Re1 [(0,m),(1,i1),(2,i2),(3,i3),(4,i4)] (c4.f j) ((twC s.te s.tx).f j))
  (hd:jhj [(0,m),(1,i1),(2,i2),(3,i3),(4,i4)]=true)
  (hkk:∀ k∈keep,k≠m/\k≠i1/\k≠i2/\k≠i3/\k≠i4) (hkd:∀ k∈keep,∀ (d:Chunk),h[k]?=some (some d)->∀ l,l<d.n->Safe1 (qck (ndP s) m keep h 0) (d.f l))
  (hv:∀ ρ ρ',AgreeOn (Sx.Fil (qck (ndP s) m keep h 0)) ρ ρ'->den ρ' v=den ρ v) (kk:K v (qck (ndP s) m keep h 0)):N (EndN ss h v K):=by
 refine qye (ok:=fun _:Rz=>True) (hB:=ndH s) g m [(0,m),(1,i1),(2,i2),(3,i3),(4,i4)] keep (fun k l hk hl=>hpc l ?_ hl) hbs xb rfl ⟨_,rfl⟩ hd rfl ?_ (fun k hk l i' hm'=>?_) hkd hv (xe.1 hm).1 kk
 ·exact Q4K
 ·intro k d hk
  match k,hk with
  | 0,hk=>
   obtain rfl:_=d:=by simpa using hk
   exact⟨m,c,rfl,hm,ho,by rw[hn];exact nlr _,hc,.inr hx.symm,.inl Q8G⟩
  | 1,hk=>
   obtain rfl:_=d:=by simpa using hk
   exact⟨i1,c1,rfl,h1,ho1,by rw[hn1];exact nlr _,hc1,.inl rfl,.inl Q8G⟩
  | 2,hk=>
   obtain rfl:_=d:=by simpa using hk
   exact⟨i2,_,rfl,h2,rfl,nlr _,nzj,.inr rfl,.inr qa6⟩
  | 3,hk=>
   obtain rfl:_=d:=by simpa using hk
   exact⟨i3,c3,rfl,h3,ho3,by rw[hn3];exact nlr _,hc3,.inl rfl,.inl Q8G⟩
  | 4,hk=>
   obtain rfl:_=d:=by simpa using hk
   exact⟨i4,c4,rfl,h4,ho4,by rw[hn4];exact nlr _,hc4,.inl rfl,.inl Q8G⟩
  | k+5,hk=>simp at hk
 ·exact Q3e
open Go Go.RowKit Sx
theorem q4b (s:Int)  (w:World):xa 35 #[xc s] w (.bool (decide (0<=s/\s<=1000000))):=by
 refine qac (G:=tys) w tysOK mixed func35 Q8I Q8K Q8J ?_;exact Q1E
theorem qf2 (s:Int) (h:Hp):qaf prog 35 [xc s] h (.bool (decide (0<=s/\s<=1000000))) [] []:=qai rfl rfl (call35 _) (q4b s)
theorem q6i (s:NSt):(ndP s).x≠Ext.none:=fun e=>by
 have h1:∀ p S w,(ndP s).x.inv p S w->S p.1:=qa6;exact Q53
theorem qay {i:Nat} {T T':NSt}:∀ l,(l=0\/l=1\/l=2\/l=3\/l=4)->l<[(⟨i,ndP T,ndP T,ndP T'⟩:jdw)].length->∃ s,[(⟨i,ndP T,ndP T,ndP T'⟩:jdw)][l]?=some s/\s.e.x≠Ext.none/\Selfish s.e.x:=fun l _ hl=>by
 obtain rfl:l=0:=by simpa using hl
 exact⟨_,rfl,q6i T,qa6⟩
theorem jcs (s:NSt) (hE:s.T.E=[]) (hv:s.fv=true) (now fine:Int) (ht:0<=now/\now<=1000000) (hd:¬ now<s.tx) (hte:0<=s.te/\s.te<=1000000) (hbn:0<s.bn/\s.bn<1000) (hs:0<=s.seq/\s.seq<65535) (hb:0<=s.boot/\s.boot<=65535) (i K:Nat) (h:Hp) (hi:h[i]?=some (some (ndP s))) (hK:h[K]?=some none) :
  CallAll prog 9 [xd i,xc now,xc fine] h (fun v ms=>∃ κ:Nat,1<=κ/\v=.slice (some ⟨K,0,some 0⟩) 1 κ/\ms=[(i,ndP {s with bl:=s.bn-1,seq:=s.seq+1,tx:=now+s.te}),(K,jkz (outV 5 s.id s.boot s.seq now 0 0 0 0 0 s.fx s.fy s.fa s.fb s.fd fine))]):=by
 have key:=qaw (G:=tys) (h:=h) (vs:=[xd i,.int .i64 now,.int .i64 fine]) (fun _:Rz=>True) (ndH s) (α:=Nat) (fun κ=>1<=κ) (fun κ=>.slice (some ⟨K,0,some 0⟩) 1 κ) [⟨i,ndP s,ndP s,ndP s⟩] (fun _=>[ndP {s with bl:=s.bn-1,seq:=s.seq+1,tx:=now+s.te}]) (fun κ=>[⟨K,6,jkz (outV 5 s.id s.boot s.seq now 0 0 0 0 0 s.fx s.fy s.fa s.fb s.fd fine)⟩]) [xd 0,.int .i64 now,.int .i64 fine] tysOK mixed func9 Q8I (call9) ⟨hi,xb⟩ ⟨Q6w,xb⟩ Q88 Q8N Q6A (fun κ hκ=>⟨⟨hK,rfl,.inl (by show 0<16;decide),by simp⟩,xb⟩) Q6G qas ?_
 ·refine qat key fun v ms hR=>?_
  exact Q3z
 intro g _
 repeat' (refine Bb ?_;first|refine Q55 ?_|refine Q6p ?_|refine Bc (q88 s.T hE _ _ 2 _ Q8I) ?_|refine Q67 ?_|refine Q5d ?_|fail)
 refine Bb ?_
 refine Bl (jbp (s.nd g) now fine s.bn s.bn 5 0 0 0 0 0 0 0 0 0 s.fx s.fy s.fa s.fb s.fd Q8G hs hb 5 0 1 2 3 4 6 _ _ _ _ Q8I Q8I Q8I Q8I Q8I Q8I Q8I Q8H) fun v ms hR=>?_
 obtain⟨κ,hκ,rfl,rfl⟩:=hR
 repeat' (refine Bb ?_;first|refine Q55 ?_|refine Bc (jcq _ s.T hE 5 0 1 2 3 4 _ _ _ _ _ Q8I Q8I Q8I Q8I Q8I Q8I Q8H) ?_|refine Bc (jcr _ s.T hE 5 0 1 2 3 4 _ _ _ _ _ Q8I Q8I Q8I Q8I Q8I Q8I Q8H) ?_|fail)
 refine Bb ?_
 refine qaz {s with bl:=s.bn-1,seq:=s.seq+1,tx:=now+s.te} g 0 1 2 3 4 [6] qay Q6C Q8I rfl rfl rfl (jgl (D:={s.nd g with seq:=s.seq+1}) (f:=1) (t:=2) (b:=3) (m:=4) (f':=1) (t':=2) (b':=3) (m':=4) Q8I Q8I Q8I Q8I) Q8I rfl rfl re7 Q8I Q8I rfl rfl re2 Q8I rfl rfl re2 Q8I (fun k hk=>by simp at hk;omega) (fun k hk d hd l hl=>?_) Q6Y ?_
 ·obtain rfl:k=6:=by simpa using hk
  obtain rfl:jkz _=d:=by simpa using hd
  have hl:l<16:=hl;generalize qck _ _ _ _ _=HH;exact jn0 (p:=fun j=>Safe1 HH (Chunk.f (jkz (outV 5 s.id s.boot s.seq now 0 0 0 0 0 s.fx s.fy s.fa s.fb s.fd fine)) j)) xb xb xb xb xb xb xb xb xb xb xb xb xb xb xb xb l hl
 refine Bo κ ⟨hκ,?_⟩
 refine Ba Q78 ?_
 refine Ba Q6N ?_
 refine Ba ⟨⟨xO rfl,_,rfl,id,nlr _,Q9G⟩,xb⟩ ?_
 refine Ba Q6F ?_
 exact Bg
theorem jct (n a b:Int)  (w:World):xa 64 #[xc n,xc a,xc b] w (.bool (decide (a<=n/\n<=b))):=by
 refine qac (G:=tys) w tysOK mixed func64 Q8I Q8K Q8J ?_;exact Q1E
theorem jok (n a b:Int) (h:Hp):qaf prog 64 [xc n,xc a,xc b] h (.bool (decide (a<=n/\n<=b))) [] []:=qai rfl rfl (call64 _) (jct n a b)
structure jlw (C:Nat->Int):Prop where
 h0:1<=C 0/\C 0<=64
 h1:1<=C 1/\C 1<=64
 h2:0<=C 2/\C 2<=1000
 h3:0<=C 3/\C 3<=1000
 h4:C 4=1
 h5:0<=C 5/\C 5<=1000
 h6:C 6=50
 h7:1<=C 7/\C 7<=10000
 h8:1<=C 8/\C 8<=1000
 h9:1<=C 9/\C 9<=100
 h10:2<=C 10/\C 10<=140737488355328
abbrev cfV (C:Nat->Int):Value:=.agg ⟨[xc (C 0),xc (C 1),xc (C 2),xc (C 3),xc (C 4),xc (C 5),xc (C 6),xc (C 7),xc (C 8),xc (C 9),xc (C 10)]⟩
theorem q89 (C:Nat->Int) (hC:jlw C) (w:World):xa 23 #[cfV C] w (.bool true):=by
 obtain⟨c0,c1,c2,c3,c4,c5,c6,c7,c8,c9,c10⟩:=hC;refine qac (G:=tys) w tysOK mixed func23 Q8I Q8K Q8J ?_;repeat' (refine Bb ?_;first|refine Q55 ?_|refine Bc (jok _ _ _ _) ?_|refine Q5p ?_|fail)
 all_goals
  rw[c4,c6,show IntKind.i64.wrap (2*1)=2 from by decide,show IntKind.i64.wrap (50+2)=52 from by decide,show IntKind.i64.wrap (52+2)=54 from by decide,jdx (C 9*54) Q8G Q8G]
  exact congrArg Value.bool (xi Q8G)
theorem q6j (C:Nat->Int) (hC:jlw C) (h:Hp):qaf prog 23 [cfV C] h (.bool true) [] []:=qai rfl rfl (call23 _) (q89 C hC)
open Go Go.RowKit Sx
theorem q6k (x y:Operand) (a b c d e p q r s t:Int):BinIs prog .eql 27 x y (.agg ⟨[xc a,xc b,xc c,xc d,xc e]⟩) (.agg ⟨[xc p,xc q,xc r,xc s,xc t]⟩) (.bool (a==p&&(b==q&&(c==r&&(d==s&&e==t))))):=
 Q7d
theorem q6l (x y:Operand) (a b c d e p q r s t:Int):BinIs prog .neq 27 x y (.agg ⟨[xc a,xc b,xc c,xc d,xc e]⟩) (.agg ⟨[xc p,xc q,xc r,xc s,xc t]⟩) (.bool !(a==p&&(b==q&&(c==r&&(d==s&&e==t))))):=
 Q7d
theorem jol (a b c d e:Int):(!(a==0&&(b==0&&(c==0&&(d==0&&e==0)))))=decide (¬ (a=0/\b=0/\c=0/\d=0/\e=0)):=by
 by_cases h1:a=0<;>by_cases h2:b=0<;>by_cases h3:c=0<;>by_cases h4:d=0<;>by_cases h5:e=0<;>simp[h1,h2,h3,h4,h5]
abbrev jej (C:Nat->Int) (id boot:Int) (v:Bool) (x y a b d:Int):NSt:=⟨C,id,boot,0,-1,-1,0,max 2 (C 10),v,x,y,a,b,d,Tbl.new (C 1),max 0 (min (C 9) 1000),max 0 (min (C 9) 1000),max 1 (min (C 8) 1000000),0,fun _=>Ses.o⟩
theorem jqr {α:Type} (a:α) (i:Nat):upd (fun _:Nat=>a) i a=fun _=>a:=funext fun j=>by unfold upd;split<;>rfl
abbrev nwC (C:Nat->Int) (id boot:Int) (s:Nat×(Rz)):Chunk:=@Chunk.mk (jd8 jem s.1 s.2 (fun _=>Ses.o)) true 85 [(79,6,.agg #[xd 10,xd 14,xc 0,xc (-1),xc (-1),xc 0]),(15,64,.agg ⟨(List.range 64).map fun i=>if i<s.1 then jeb (s.2 i) else .pointer none⟩),(0,15,.agg #[xc (C 0),xc (C 1),xc (C 2),xc (C 3),xc (C 4),xc (C 5),xc (C 6),xc (C 7),xc (C 8),xc (C 9),xc (C 10),xc id,xc boot,xd 2,xd 6])]
theorem B7 {P:Program} {g:FuncId} {vs:List Value} {slot:Nat} {C:List Nat->Prop} {K:List Nat->Value->Mz->Prop} (hs:List Nat) (R:Value->Mz->Prop) (hC:C hs) (hc:∀ h₂:Hp,(∀ q∈hs,h₂[q]?=h[q]?)->CallAll P g vs h₂ R) (k:∀ v ms,R v ms->(∀ q∈ms.map (·.1),q∈hs)/\K hs v ms):N (jim P g vs h slot C K):=N.mk ⟨hs,R,hC,hc,k⟩
theorem jom (C:Nat->Int) (id boot:Int) (s:Nat×(Rz)) (j:Nat) (hj:j<64):(nwC C id boot s).f (15+j)=if j<s.1 then jeb (s.2 j) else .pointer none:=Q26
theorem jlx (C:Nat->Int) (id boot:Int) (i:Nat) (g:Rz) (q:Nat×Nat) (hi:i<64) {p:Nat} (hp:p=15+i):Writes (@Chunk.mk (jd8 jem (i+1) (upd g i q) (upd (fun _=>Ses.o) i Ses.o)) true 85 (nwC C id boot (i,g)).ps) p 1 (jeb q) (nwC C id boot (i+1,upd g i q)):=by
 subst hp;refine⟨rfl,by show 15+i+1<=85;omega,by show(85,jd8 jem (i+1) (upd g i q) (fun _=>Ses.o))=(85,jd8 jem (i+1) (upd g i q) (upd (fun _=>Ses.o) i Ses.o));rw[jqr],jmn (fun j hj=>?_) Q9k Q9k Q9k Q9k Q9k Q9k Q9k Q9k Q9k Q9k Q9k Q9k Q9k Q9k Q9k Q9k Q9k Q9k Q9k Q9k Q9k⟩;rw[jom _ _ _ _ j hj];show _=if _ then _ else (nwC C id boot (i,g)).f (15+j);rw[jom _ _ _ _ j hj];by_cases e:j=i
 ·subst e;rw[if_pos (Nat.lt_succ_self _),if_pos Q8G,show 15+j-(15+j)=0 from by omega];show jeb (upd g j q j)=_;rw[qiv];rfl
 ·rw[if_neg (by omega:¬ (15+i<=15+j/\15+j<15+i+1))];by_cases h2:j<i
  ·rw[if_pos (by show j<i+1;omega),if_pos h2];show jeb (upd g i q j)=_;rw[qqy _ _ e]
  ·rw[if_neg (by show ¬ j<i+1;omega),if_neg h2]
theorem jly (C:Nat->Int) (id boot:Int) (g:Rz) (s:NSt) (h1:s.C=C) (h2:s.id=id) (h3:s.boot=boot) (h4:s.seq=0) (h5:s.told = -1) (h6:s.asked = -1) (h7:s.bad=0):∀ j,j<85->Re1 [(0,18),(1,2),(2,6),(3,10),(4,14)] ((nwC C id boot (64,g)).f j) ((ndC (s.nd g) 1 2 3 4).f j):=by
 obtain⟨C',id',boot',sq,td,ak,bd,_⟩:=s;simp only at h1 h2 h3 h4 h5 h6 h7;subst h1 h2 h3 h4 h5 h6 h7;refine jmn (fun j hj=>?_) (.plain rfl) (.plain rfl) (.plain rfl) (.plain rfl) (.plain rfl) (.plain rfl) (.plain rfl) (.plain rfl) (.plain rfl) (.plain rfl) (.plain rfl) (.plain rfl) (.plain rfl) (.ptr rfl) (.ptr rfl) (.ptr rfl) (.ptr rfl) (.plain rfl) (.plain rfl) (.plain rfl) (.plain rfl);have e:∀ D f t b m,(ndC D f t b m).f (15+j)=jeb (D.g j):=fun D f t b m=>Q26
 rw[jom _ _ _ _ j hj,e,if_pos hj];exact .plain rfl
theorem q6m (C:Nat->Int) (id boot:Int) (g:Rz):ChunkLe (nwC C id boot (0,g)) ⟨true,85,[(0,85,.agg ⟨[xc (C 0),xc (C 1),xc (C 2),xc (C 3),xc (C 4),xc (C 5),xc (C 6),xc (C 7),xc (C 8),xc (C 9),xc (C 10),xc id,xc boot,xd 2,xd 6,.pointer none,.pointer none,.pointer none,.pointer none,.pointer none,.pointer none,.pointer none,.pointer none,.pointer none,.pointer none,.pointer none,.pointer none,.pointer none,.pointer none,.pointer none,.pointer none,.pointer none,.pointer none,.pointer none,.pointer none,.pointer none,.pointer none,.pointer none,.pointer none,.pointer none,.pointer none,.pointer none,.pointer none,.pointer none,.pointer none,.pointer none,.pointer none,.pointer none,.pointer none,.pointer none,.pointer none,.pointer none,.pointer none,.pointer none,.pointer none,.pointer none,.pointer none,.pointer none,.pointer none,.pointer none,.pointer none,.pointer none,.pointer none,.pointer none,.pointer none,.pointer none,.pointer none,.pointer none,.pointer none,.pointer none,.pointer none,.pointer none,.pointer none,.pointer none,.pointer none,.pointer none,.pointer none,.pointer none,.pointer none,xd 10,xd 14,xc 0,xc (-1),xc (-1),xc 0]⟩)]⟩:=ChunkLe.mk (fun h=>h) (nlr _) (fun j hj=>by
 match j,hj with
 | 0,_=>exact rfl
 | 1,_=>exact rfl
 | 2,_=>exact rfl
 | 3,_=>exact rfl
 | 4,_=>exact rfl
 | 5,_=>exact rfl
 | 6,_=>exact rfl
 | 7,_=>exact rfl
 | 8,_=>exact rfl
 | 9,_=>exact rfl
 | 10,_=>exact rfl
 | 11,_=>exact rfl
 | 12,_=>exact rfl
 | 13,_=>exact rfl
 | 14,_=>exact rfl
 | 15,_=>exact rfl
 | 16,_=>exact rfl
 | 17,_=>exact rfl
 | 18,_=>exact rfl
 | 19,_=>exact rfl
 | 20,_=>exact rfl
 | 21,_=>exact rfl
 | 22,_=>exact rfl
 | 23,_=>exact rfl
 | 24,_=>exact rfl
 | 25,_=>exact rfl
 | 26,_=>exact rfl
 | 27,_=>exact rfl
 | 28,_=>exact rfl
 | 29,_=>exact rfl
 | 30,_=>exact rfl
 | 31,_=>exact rfl
 | 32,_=>exact rfl
 | 33,_=>exact rfl
 | 34,_=>exact rfl
 | 35,_=>exact rfl
 | 36,_=>exact rfl
 | 37,_=>exact rfl
 | 38,_=>exact rfl
 | 39,_=>exact rfl
 | 40,_=>exact rfl
 | 41,_=>exact rfl
 | 42,_=>exact rfl
 | 43,_=>exact rfl
 | 44,_=>exact rfl
 | 45,_=>exact rfl
 | 46,_=>exact rfl
 | 47,_=>exact rfl
 | 48,_=>exact rfl
 | 49,_=>exact rfl
 | 50,_=>exact rfl
 | 51,_=>exact rfl
 | 52,_=>exact rfl
 | 53,_=>exact rfl
 | 54,_=>exact rfl
 | 55,_=>exact rfl
 | 56,_=>exact rfl
 | 57,_=>exact rfl
 | 58,_=>exact rfl
 | 59,_=>exact rfl
 | 60,_=>exact rfl
 | 61,_=>exact rfl
 | 62,_=>exact rfl
 | 63,_=>exact rfl
 | 64,_=>exact rfl
 | 65,_=>exact rfl
 | 66,_=>exact rfl
 | 67,_=>exact rfl
 | 68,_=>exact rfl
 | 69,_=>exact rfl
 | 70,_=>exact rfl
 | 71,_=>exact rfl
 | 72,_=>exact rfl
 | 73,_=>exact rfl
 | 74,_=>exact rfl
 | 75,_=>exact rfl
 | 76,_=>exact rfl
 | 77,_=>exact rfl
 | 78,_=>exact rfl
 | 79,_=>exact rfl
 | 80,_=>exact rfl
 | 81,_=>exact rfl
 | 82,_=>exact rfl
 | 83,_=>exact rfl
 | 84,_=>exact rfl
 | k+85,h=>exact absurd (show k+85<85 from h) Q8G
) (qwd _ _ _)
theorem q9a (C:Nat->Int) (hC:jlw C) (id boot:Int) (hid:0<=id/\id<64) (hbo:jfv boot)  (K:Nat) (h:Hp) (hK:h[K]?=some none) :
  qaf prog 7 [cfV C,xc id,xc boot,elV 0 0 0 0 0] h (xd K) [(K,ndP (jej C id boot false 0 0 0 0 0))] []:=by
 refine qaq (G:=tys) (fun _:Unit=>True) (fun _=>[]) [] [⟨K,18,ndP (jej C id boot false 0 0 0 0 0)⟩] [cfV C,xc id,xc boot,elV 0 0 0 0 0] tysOK mixed func7 Q8I (call7) xb xb xb xb Q8t ⟨.plain rfl,.plain rfl,.plain rfl,.plain rfl,xb⟩ Opens.same ?_
 rintro⟨⟩ -
 repeat' (refine Bb ?_;first|refine Q55 ?_|refine Bc (qco boot _) ?_|refine Bc (q6j C hC _) ?_|refine Q69 ?_|refine Q5l ?_|refine Be (by rw[xi hbo];rfl) ?_|refine Q5d ?_|fail)
 refine Bb ?_
 refine Bt (α:=Nat×(Rz)) (fun s=>s.1<=64) (fun s=>64-s.1) (fun s=>[(54,xc s.1)]) (fun s=>[(18,nwC C id boot s)]) (0,fun _=>(0,0)) Q8H ?_ ?_
 ·exact Q2f
 rintro⟨i,g⟩ hi
 have hi:i<=64:=hi
 refine Bb ?_
 refine Bp (fun hb=>?_) (fun hb=>?_)
 ·exact Q0o
 ·have hb:¬ i<64:=by have:=of_decide_eq_false hb;omega
  repeat' (refine Bb ?_;first|refine Q55 ?_|refine Bc (qzb _ _ _ _ _ _ _ _ _ _ _ _ 2 _ Q8I (fun h=>(by unfold jed at h;omega))) ?_|fail)
  refine Bb ?_;obtain rfl:i=64:=by omega
  refine qaz (jej C id boot false 0 0 0 0 0) g 18 2 6 10 14 [] (fun l _ hl=>absurd hl Q8R) (fun i hi=>absurd hi Q8R) Q8I rfl rfl rfl (jly C id boot g (jej C id boot false 0 0 0 0 0) rfl rfl rfl rfl rfl rfl rfl) Q8I rfl rfl re7 Q8I Q8I rfl rfl re2 Q8I rfl rfl re2 Q8I (fun k hk=>by cases hk) (fun k hk=>by cases hk) Q8C ?_;exact Q21
theorem qlt (C:Nat->Int) (hC:jlw C) (id boot:Int) (hid:0<=id/\id<64) (hbo:jfv boot) (x y a b d:Int) (hm:jed x y a b d) (ho:¬ max 2 (C 10)<a+d) (K:Nat) (h:Hp) (hK:h[K]?=some none) :
  qaf prog 7 [cfV C,xc id,xc boot,elV x y a b d] h (xd K) [(K,ndP (jej C id boot true x y a b d))] []:=by
 refine qaq (G:=tys) (fun _:Unit=>True) (fun _=>[]) [] [⟨K,18,ndP (jej C id boot true x y a b d)⟩] [cfV C,xc id,xc boot,elV x y a b d] tysOK mixed func7 Q8I (call7) xb xb xb xb Q8t ⟨.plain rfl,.plain rfl,.plain rfl,.plain rfl,xb⟩ Opens.same ?_
 have hz:¬ (x=0/\y=0/\a=0/\b=0/\d=0):=fun h=>(by unfold jed at hm;omega)
 rintro⟨⟩ -
 repeat' (refine Bb ?_;first|refine Q55 ?_|refine Bc (qco boot _) ?_|refine Bc (q6j C hC _) ?_|refine Bc (jd6 _ _ _ _ _ _) ?_|refine Q69 ?_|refine Q5l ?_|refine Be (by rw[xi hbo];rfl) ?_|refine Q5d ?_|refine Bf (by rw[jol,xh];exact hz) ?_|refine Be Qa5 ?_|fail)
 refine Bb ?_
 refine Bt (α:=Nat×(Rz)) (fun s=>s.1<=64) (fun s=>64-s.1) (fun s=>[(54,xc s.1)]) (fun s=>[(18,nwC C id boot s)]) (0,fun _=>(0,0)) Q8H ?_ ?_
 ·exact Q2f
 rintro⟨i,g⟩ hi
 have hi:i<=64:=hi
 refine Bb ?_
 refine Bp (fun hb=>?_) (fun hb=>?_)
 ·exact Q0o
 ·have hb:¬ i<64:=by have:=of_decide_eq_false hb;omega
  repeat' (refine Bb ?_;first|refine Q55 ?_|refine Bc (qzc _ _ _ _ _ _ _ x y a b d 2 _ Q8I hm ho) ?_|fail)
  refine Bb ?_;obtain rfl:i=64:=by omega
  refine qaz (jej C id boot true x y a b d) g 18 2 6 10 14 [] (fun l _ hl=>absurd hl Q8R) (fun i hi=>absurd hi Q8R) Q8I rfl rfl rfl (jly C id boot g (jej C id boot true x y a b d) rfl rfl rfl rfl rfl rfl rfl) Q8I rfl rfl re7 Q8I Q8I rfl rfl re2 Q8I rfl rfl re2 Q8I (fun k hk=>by cases hk) (fun k hk=>by cases hk) Q8C ?_;exact Q21
abbrev md (a m:Int):Int:=IntKind.i64.wrap ((IntKind.u64.wrap a).tmod m)
theorem jf3 (a m:Int) (h0:0<m) (h1:m<=9223372036854775807):0<=md a m/\md a m<m:=jan a m h0 h1
abbrev cf6 (a b c d g f:Int):Nat->Int:=fun k=>match k with
 | 0=>1+md a 8
 | 1=>1+md b 6
 | 2=>md c 40
 | 3=>md d 10
 | 4=>1
 | 5=>10
 | 6=>50
 | 7=>30
 | 8=>1+md g 6
 | 9=>1+md f 8
 | _=>1000000000000
theorem qu4 (a b c d g f:Int):jlw (cf6 a b c d g f):=by
 have k0:=jf3 a 8 Q8H Q8H;have k1:=jf3 b 6 Q8H Q8H;have k2:=jf3 c 40 Q8H Q8H;have k3:=jf3 d 10 Q8H Q8H;have k4:=jf3 g 6 Q8H Q8H;have k5:=jf3 f 8 Q8H Q8H;refine⟨?_,?_,?_,?_,rfl,?_,rfl,?_,?_,?_,?_⟩<;>simp only[cf6]<;>omega
theorem q4c (a b c d g f:Int)  (w:World):xa 6 #[xc a,xc b,xc c,xc d,xc g,xc f] w (cfV (cf6 a b c d g f)):=by
 have k0:=jf3 a 8 Q8H Q8H;have k1:=jf3 b 6 Q8H Q8H;have k4:=jf3 g 6 Q8H Q8H;have k5:=jf3 f 8 Q8H Q8H;refine qac (G:=tys) w tysOK mixed func6 Q8I Q8K Q8J ?_;repeat' (refine Bb ?_;first|refine Q55 ?_|fail)
 all_goals
  simp only[cfV,cf6]
  rw[jdx (1+md a 8) Q8G Q8G,jdx (1+md b 6) Q8G Q8G,jdx (1+md g 6) Q8G Q8G,jdx (1+md f 8) Q8G Q8G]
theorem qos (a b c d g f:Int) (h:Hp):qaf prog 6 [xc a,xc b,xc c,xc d,xc g,xc f] h (cfV (cf6 a b c d g f)) [] []:=qai rfl rfl (call6 _) (q4c a b c d g f)
abbrev rpV (v:Bool) (x y a b d:Int) (s:Value):Value:=.agg ⟨[.bool v,xc x,xc y,xc a,xc b,xc d,s]⟩
theorem q0k (w:World):xa 13 #[] w (.bool true):=by
 refine qac (G:=tys) w tysOK mixed func13 Q8I Q8I Q8I ?_;repeat' (refine Bb ?_;first|refine Q55 ?_|refine Q5L ?_|fail)
 refine Bb ?_;refine Bl (jcs (jej (cf6 3 3 5 1 4 4) 2 7 true 0 0 64 0 64) rfl rfl 0 100 Q8H Q8H Q8H Q8H Q8H Q8H 2 5 _ Q8I Q8I) fun v ms hR=>?_
 obtain⟨κ,hκ,rfl,rfl⟩:=hR;repeat' (refine Bb ?_;first|refine Q55 ?_|refine Q5L ?_|fail)
 all_goals rfl
theorem q0l (h:Hp):qaf prog 13 [] h (.bool true) [] []:=qai rfl rfl (call13 _) q0k
open Go Go.RowKit Sx
theorem q9b (m:Int) (v:Bool) (x y a b d:Int) (i:Nat) (h:Hp) (hi:h[i]?=some (some (fiC m v x y a b d)))  : qaf prog 168 [xd i] h (.tuple #[]) [(i,fiC m false 0 0 0 0 0)] []:=by
 refine qal (G:=tys) [⟨i,_,fiC m v x y a b d,fiC m false 0 0 0 0 0⟩] [] [xd 0] tysOK mixed func168 Q8I (call168) ⟨hi,xb⟩ ⟨Q76,xb⟩ Q8N xb ⟨.ptr rfl,xb⟩ ?_;exact Q0T
theorem qm3 (e:El) (of:Int->El×Int) (more:List El):(qbi e of more).2=0\/qbi e of more=(El.o,3):=by
 unfold qbi;split
 ·exact .inr rfl
 ·exact .inl rfl
theorem qlu {f:El} (he:e.may) (hf:f.may):((fuseF e f).2=0/\(fuseF e f).1.may)\/fuseF e f=(El.o,3):=by
 have e0:fuseF e f=qbi e (fuseW e f) [f]:=by unfold fuseF;rw[if_pos ⟨he,hf⟩]
 rw[e0];rcases qm3 e (fuseW e f) [f] with h|h
 ·refine .inl ⟨h,?_⟩;rcases qf0 (fun r=>r.may) (e:=e) (of:=fuseW e f) (more:=[f]) he (fun w g hg=>by
   unfold fuseW at hg;split at hg
   ·exact qz5 hg
   ·injection hg with _ hg;cases hg) (fun x hx=>by simp at hx;subst hx;exact hf) (r:=(qbi e (fuseW e f) [f]).1) (c:=(qbi e (fuseW e f) [f]).2) rfl with ⟨_,h2,_⟩|⟨h2,_⟩
  ·exact h2
  ·omega
 ·exact .inr h
theorem qu5 {s:Strip} (he:e.may) (hs:s.may):((cutF e s).2=0/\(cutF e s).1.may)\/cutF e s=(El.o,3):=by
 have e0:cutF e s=qbi e (cutW e s) []:=by unfold cutF;rw[if_pos ⟨he,hs⟩]
 rw[e0];rcases qm3 e (cutW e s) [] with h|h
 ·refine .inl ⟨h,?_⟩;rcases qf0 (fun r=>r.may) (e:=e) (of:=cutW e s) (more:=[]) he (fun w g hg=>by
   unfold cutW at hg;split at hg
   ·exact qz5 hg
   ·injection hg with _ hg;cases hg) (fun x hx=>by simp at hx) (r:=(qbi e (cutW e s) []).1) (c:=(qbi e (cutW e s) []).2) rfl with ⟨_,h2,_⟩|⟨h2,_⟩
  ·exact h2
  ·omega
 ·exact .inr h
theorem qre (e n:El) (lo hi:Int) (he:e.may) (hn:n.may) (hd:jfy lo hi):(jd7 e n lo hi).2=0\/(jd7 e n lo hi).2=3\/(jd7 e n lo hi).2=7:=by
 unfold jd7;rw[if_neg (fun h=>h ⟨he,hn,hd⟩)];split
 ·exact .inr (.inr rfl)
 split
 ·exact .inr (.inl rfl)
 split
 ·exact .inl rfl
 ·exact .inl rfl
theorem qh1 (x y r r':Int) (h:Hp) (e:r'=r) (hw:qax 4194304 x y) (hr0:1<=r/\r<=4194304):qaf prog 14 [.agg #[xc x,xc y],xc r'] h (.tuple #[elE (jd0 x y r),xc 0]) [] []:=by subst e;exact qjy x y r' h hw hr0
theorem qlv (x y r r':Int) (h:Hp) (e:r'=r) (hr0:¬ (1<=r/\r<=4194304)):qaf prog 14 [.agg #[xc x,xc y],xc r'] h (.tuple #[elE El.o,xc 1]) [] []:=by subst e;exact jbg x y r' h (fun h=>hr0 h.2)
theorem q4d (e n:El) (lo hi:Int) (he:e.may) (hn:n.may) (hd:jfy lo hi) (W:World):xa 173 #[elE e,elE n,xc lo,xc hi] W (.tuple #[elE (qb1 e n lo hi).1,xc (qb1 e n lo hi).2]):=by
 have hr:=(qlo hn).2.1;have hn2:=hn;have hd2:=hd;unfold El.may jed at hn2;unfold jfy at hd2;have w6:IntKind.i64.wrap (hi+n.rad)=hi+n.rad:=jdx _ Q8G Q8G;by_cases hb:1<=hi+n.rad/\hi+n.rad<=4194304
 ·have hbm:=qf1 hn2.1 hb;rcases qlu he hbm with ⟨hf,hfm⟩|hf
  ·have hN:nearF e n hi=((fuseF e (jd0 n.x n.y (hi+n.rad))).1,0):=by unfold nearF;rw[if_pos hb,if_neg Q8G,if_pos hf]
   have hU:qb1 e n lo hi=qcf (fuseF e (jd0 n.x n.y (hi+n.rad))).1 n lo hi:=by unfold qb1;rw[if_pos ⟨he,hn,hd⟩,hN,if_neg Q8R]
   rw[hU];rcases qre (fuseF e (jd0 n.x n.y (hi+n.rad))).1 n lo hi hfm hn hd with hc|hc|hc
   ·by_cases hs:(jd7 (fuseF e (jd0 n.x n.y (hi+n.rad))).1 n lo hi).1.may
    ·rcases qu5 hfm hs with ⟨hk,_⟩|hk
     ·rw[show qcf (fuseF e (jd0 n.x n.y (hi+n.rad))).1 n lo hi=((cutF (fuseF e (jd0 n.x n.y (hi+n.rad))).1 (jd7 (fuseF e (jd0 n.x n.y (hi+n.rad))).1 n lo hi).1).1,0) from by unfold qcf;rw[if_neg Q8G,if_pos hc,if_neg Q8G,if_pos hk]];refine Q1s ?_
      repeat' (first|(refine Bb ?_;first|with_reducible (first|refine Ba Q8H ?_|refine Ba (qab _ _ _) ?_|refine Ba (qaa _ _) ?_|refine Bk ?_|refine Ba rfl ?_|refine Ba ⟨by kernel_rfl,by kernel_rfl⟩ ?_|refine Bj ?_|refine Bh ?_|refine Bi ?_)|refine Bc (jd6 _ _ _ _ _ _) ?_|refine Bc (je6 _ _ _) ?_|refine Be (ndF he) ?_|refine Be (ndF hn) ?_|refine Be (ndF hd) ?_|refine Bc (jew n _) ?_|refine Bc (qh1 n.x n.y (hi+n.rad) _ _ w6 hn2.1 hb) ?_|refine Bc (qi2 e (jd0 n.x n.y (hi+n.rad)) _ he hbm) ?_|refine Bf Q8H ?_|refine Be Q9x ?_|refine Bf Q9x ?_|refine Bc (jgb (fuseF e (jd0 n.x n.y (hi+n.rad))).1 n lo hi _ hfm hn hd) ?_|refine Bc (jkn (fuseF e (jd0 n.x n.y (hi+n.rad))).1 (jd7 (fuseF e (jd0 n.x n.y (hi+n.rad))).1 n lo hi).1 _ hfm hs) ?_|refine Be Q96 ?_|refine Bf Q96 ?_|refine Be (by rw[hk];rfl) ?_|refine Bf (by rw[hk];rfl) ?_|fail)|refine qah Q8I ?_)
      all_goals rfl
     ·rw[show qcf (fuseF e (jd0 n.x n.y (hi+n.rad))).1 n lo hi=(El.o,3) from by unfold qcf;rw[if_neg Q8G,if_pos hc,hk,if_pos rfl]];refine Q1s ?_
      repeat' (first|(refine Bb ?_;first|with_reducible (first|refine Ba Q8H ?_|refine Ba (qab _ _ _) ?_|refine Ba (qaa _ _) ?_|refine Bk ?_|refine Ba rfl ?_|refine Ba ⟨by kernel_rfl,by kernel_rfl⟩ ?_|refine Bj ?_|refine Bh ?_|refine Bi ?_)|refine Bc (jd6 _ _ _ _ _ _) ?_|refine Bc (je6 _ _ _) ?_|refine Be (ndF he) ?_|refine Be (ndF hn) ?_|refine Be (ndF hd) ?_|refine Bc (jew n _) ?_|refine Bc (qh1 n.x n.y (hi+n.rad) _ _ w6 hn2.1 hb) ?_|refine Bc (qi2 e (jd0 n.x n.y (hi+n.rad)) _ he hbm) ?_|refine Bf Q8H ?_|refine Be Q9x ?_|refine Bf Q9x ?_|refine Bc (jgb (fuseF e (jd0 n.x n.y (hi+n.rad))).1 n lo hi _ hfm hn hd) ?_|refine Bc (q6f (fuseF e (jd0 n.x n.y (hi+n.rad))).1 (jd7 (fuseF e (jd0 n.x n.y (hi+n.rad))).1 n lo hi).1 El.o 3 _ hk hfm hs) ?_|refine Be Q96 ?_|refine Bf Q96 ?_|refine Be Q8I ?_|refine Bf Q8I ?_|fail)|refine qah Q8I ?_)
      all_goals rfl
    ·have hk:cutF (fuseF e (jd0 n.x n.y (hi+n.rad))).1 (jd7 (fuseF e (jd0 n.x n.y (hi+n.rad))).1 n lo hi).1=(El.o,1):=by unfold cutF;rw[if_neg (fun h=>hs h.2)]
     rw[show qcf (fuseF e (jd0 n.x n.y (hi+n.rad))).1 n lo hi=((fuseF e (jd0 n.x n.y (hi+n.rad))).1,0) from by unfold qcf;rw[if_neg Q8G,if_pos hc,hk,if_neg Q8H,if_neg Q8H]];refine Q1s ?_
     repeat' (first|(refine Bb ?_;first|with_reducible (first|refine Ba Q8H ?_|refine Ba (qab _ _ _) ?_|refine Ba (qaa _ _) ?_|refine Bk ?_|refine Ba rfl ?_|refine Ba ⟨by kernel_rfl,by kernel_rfl⟩ ?_|refine Bj ?_|refine Bh ?_|refine Bi ?_)|refine Bc (jd6 _ _ _ _ _ _) ?_|refine Bc (je6 _ _ _) ?_|refine Be (ndF he) ?_|refine Be (ndF hn) ?_|refine Be (ndF hd) ?_|refine Bc (jew n _) ?_|refine Bc (qh1 n.x n.y (hi+n.rad) _ _ w6 hn2.1 hb) ?_|refine Bc (qi2 e (jd0 n.x n.y (hi+n.rad)) _ he hbm) ?_|refine Bf Q8H ?_|refine Be Q9x ?_|refine Bf Q9x ?_|refine Bc (jgb (fuseF e (jd0 n.x n.y (hi+n.rad))).1 n lo hi _ hfm hn hd) ?_|refine Bc (q6g (fuseF e (jd0 n.x n.y (hi+n.rad))).1 (jd7 (fuseF e (jd0 n.x n.y (hi+n.rad))).1 n lo hi).1 _ hfm hs) ?_|refine Be Q96 ?_|refine Bf Q96 ?_|refine Be Q8I ?_|refine Bf Q8I ?_|fail)|refine qah Q8I ?_)
     all_goals rfl
   ·rw[show qcf (fuseF e (jd0 n.x n.y (hi+n.rad))).1 n lo hi=(El.o,3) from by unfold qcf;rw[if_pos hc]];refine Q1s ?_
    repeat' (first|(refine Bb ?_;first|with_reducible (first|refine Ba Q8H ?_|refine Ba (qab _ _ _) ?_|refine Ba (qaa _ _) ?_|refine Bk ?_|refine Ba rfl ?_|refine Ba ⟨by kernel_rfl,by kernel_rfl⟩ ?_|refine Bj ?_|refine Bh ?_|refine Bi ?_)|refine Bc (jd6 _ _ _ _ _ _) ?_|refine Bc (je6 _ _ _) ?_|refine Be (ndF he) ?_|refine Be (ndF hn) ?_|refine Be (ndF hd) ?_|refine Bc (jew n _) ?_|refine Bc (qh1 n.x n.y (hi+n.rad) _ _ w6 hn2.1 hb) ?_|refine Bc (qi2 e (jd0 n.x n.y (hi+n.rad)) _ he hbm) ?_|refine Bf Q8H ?_|refine Be Q9x ?_|refine Bf Q9x ?_|refine Bc (jgb (fuseF e (jd0 n.x n.y (hi+n.rad))).1 n lo hi _ hfm hn hd) ?_|refine Be Q96 ?_|refine Bf Q96 ?_|refine Be Q8I ?_|refine Bf Q8I ?_|fail)|refine qah Q8I ?_)
    all_goals first|rfl|(rw[hc])
   ·rw[show qcf (fuseF e (jd0 n.x n.y (hi+n.rad))).1 n lo hi=((fuseF e (jd0 n.x n.y (hi+n.rad))).1,0) from by unfold qcf;rw[if_neg Q8G,if_neg Q8G]];refine Q1s ?_
    repeat' (first|(refine Bb ?_;first|with_reducible (first|refine Ba Q8H ?_|refine Ba (qab _ _ _) ?_|refine Ba (qaa _ _) ?_|refine Bk ?_|refine Ba rfl ?_|refine Ba ⟨by kernel_rfl,by kernel_rfl⟩ ?_|refine Bj ?_|refine Bh ?_|refine Bi ?_)|refine Bc (jd6 _ _ _ _ _ _) ?_|refine Bc (je6 _ _ _) ?_|refine Be (ndF he) ?_|refine Be (ndF hn) ?_|refine Be (ndF hd) ?_|refine Bc (jew n _) ?_|refine Bc (qh1 n.x n.y (hi+n.rad) _ _ w6 hn2.1 hb) ?_|refine Bc (qi2 e (jd0 n.x n.y (hi+n.rad)) _ he hbm) ?_|refine Bf Q8H ?_|refine Be Q9x ?_|refine Bf Q9x ?_|refine Bc (jgb (fuseF e (jd0 n.x n.y (hi+n.rad))).1 n lo hi _ hfm hn hd) ?_|refine Be Q96 ?_|refine Bf Q96 ?_|refine Be Q8I ?_|refine Bf Q8I ?_|fail)|refine qah Q8I ?_)
    all_goals rfl
  ·have hU:qb1 e n lo hi=(El.o,3):=by
    unfold qb1 nearF;rw[if_pos ⟨he,hn,hd⟩,if_pos hb,hf];rfl
   rw[hU];refine Q1s ?_;repeat' (first|(refine Bb ?_;first|with_reducible (first|refine Ba Q8H ?_|refine Ba (qab _ _ _) ?_|refine Ba (qaa _ _) ?_|refine Bk ?_|refine Ba rfl ?_|refine Ba ⟨by kernel_rfl,by kernel_rfl⟩ ?_|refine Bj ?_|refine Bh ?_|refine Bi ?_)|refine Bc (jd6 _ _ _ _ _ _) ?_|refine Bc (je6 _ _ _) ?_|refine Be (ndF he) ?_|refine Be (ndF hn) ?_|refine Be (ndF hd) ?_|refine Bc (jew n _) ?_|refine Bc (qh1 n.x n.y (hi+n.rad) _ _ w6 hn2.1 hb) ?_|refine Bc (q83 e (jd0 n.x n.y (hi+n.rad)) El.o 3 _ hf he hbm) ?_|refine Bf Q8H ?_|fail)|refine qah Q8I ?_)
   all_goals rfl
 ·have hN:nearF e n hi=(e,0):=by unfold nearF;rw[if_neg hb]
  have hU:qb1 e n lo hi=qcf e n lo hi:=by unfold qb1;rw[if_pos ⟨he,hn,hd⟩,hN,if_neg Q8R]
  rw[hU];rcases qre e n lo hi he hn hd with hc|hc|hc
  ·by_cases hs:(jd7 e n lo hi).1.may
   ·rcases qu5 he hs with ⟨hk,_⟩|hk
    ·rw[show qcf e n lo hi=((cutF e (jd7 e n lo hi).1).1,0) from by unfold qcf;rw[if_neg Q8G,if_pos hc,if_neg Q8G,if_pos hk]];refine Q1s ?_
     repeat' (first|(refine Bb ?_;first|with_reducible (first|refine Ba Q8H ?_|refine Ba (qab _ _ _) ?_|refine Ba (qaa _ _) ?_|refine Bk ?_|refine Ba rfl ?_|refine Ba ⟨by kernel_rfl,by kernel_rfl⟩ ?_|refine Bj ?_|refine Bh ?_|refine Bi ?_)|refine Bc (jd6 _ _ _ _ _ _) ?_|refine Bc (je6 _ _ _) ?_|refine Be (ndF he) ?_|refine Be (ndF hn) ?_|refine Be (ndF hd) ?_|refine Bc (jew n _) ?_|refine Bc (qlv n.x n.y (hi+n.rad) _ _ w6 hb) ?_|refine Be Q8H ?_|refine Bc (jgb e n lo hi _ he hn hd) ?_|refine Bc (jkn e (jd7 e n lo hi).1 _ he hs) ?_|refine Be Q96 ?_|refine Bf Q96 ?_|refine Be (by rw[hk];rfl) ?_|refine Bf (by rw[hk];rfl) ?_|fail)|refine qah Q8I ?_)
     all_goals rfl
    ·rw[show qcf e n lo hi=(El.o,3) from by unfold qcf;rw[if_neg Q8G,if_pos hc,hk,if_pos rfl]];refine Q1s ?_;repeat' (first|(refine Bb ?_;first|with_reducible (first|refine Ba Q8H ?_|refine Ba (qab _ _ _) ?_|refine Ba (qaa _ _) ?_|refine Bk ?_|refine Ba rfl ?_|refine Ba ⟨by kernel_rfl,by kernel_rfl⟩ ?_|refine Bj ?_|refine Bh ?_|refine Bi ?_)|refine Bc (jd6 _ _ _ _ _ _) ?_|refine Bc (je6 _ _ _) ?_|refine Be (ndF he) ?_|refine Be (ndF hn) ?_|refine Be (ndF hd) ?_|refine Bc (jew n _) ?_|refine Bc (qlv n.x n.y (hi+n.rad) _ _ w6 hb) ?_|refine Be Q8H ?_|refine Bc (jgb e n lo hi _ he hn hd) ?_|refine Bc (q6f e (jd7 e n lo hi).1 El.o 3 _ hk he hs) ?_|refine Be Q96 ?_|refine Bf Q96 ?_|refine Be Q8I ?_|refine Bf Q8I ?_|fail)|refine qah Q8I ?_)
     all_goals rfl
   ·have hk:cutF e (jd7 e n lo hi).1=(El.o,1):=by unfold cutF;rw[if_neg (fun h=>hs h.2)]
    rw[show qcf e n lo hi=(e,0) from by unfold qcf;rw[if_neg Q8G,if_pos hc,hk,if_neg Q8H,if_neg Q8H]];refine Q1s ?_;repeat' (first|(refine Bb ?_;first|with_reducible (first|refine Ba Q8H ?_|refine Ba (qab _ _ _) ?_|refine Ba (qaa _ _) ?_|refine Bk ?_|refine Ba rfl ?_|refine Ba ⟨by kernel_rfl,by kernel_rfl⟩ ?_|refine Bj ?_|refine Bh ?_|refine Bi ?_)|refine Bc (jd6 _ _ _ _ _ _) ?_|refine Bc (je6 _ _ _) ?_|refine Be (ndF he) ?_|refine Be (ndF hn) ?_|refine Be (ndF hd) ?_|refine Bc (jew n _) ?_|refine Bc (qlv n.x n.y (hi+n.rad) _ _ w6 hb) ?_|refine Be Q8H ?_|refine Bc (jgb e n lo hi _ he hn hd) ?_|refine Bc (q6g e (jd7 e n lo hi).1 _ he hs) ?_|refine Be Q96 ?_|refine Bf Q96 ?_|refine Be Q8I ?_|refine Bf Q8I ?_|fail)|refine qah Q8I ?_)
    all_goals rfl
  ·rw[show qcf e n lo hi=(El.o,3) from by unfold qcf;rw[if_pos hc]];refine Q1s ?_;repeat' (first|(refine Bb ?_;first|with_reducible (first|refine Ba Q8H ?_|refine Ba (qab _ _ _) ?_|refine Ba (qaa _ _) ?_|refine Bk ?_|refine Ba rfl ?_|refine Ba ⟨by kernel_rfl,by kernel_rfl⟩ ?_|refine Bj ?_|refine Bh ?_|refine Bi ?_)|refine Bc (jd6 _ _ _ _ _ _) ?_|refine Bc (je6 _ _ _) ?_|refine Be (ndF he) ?_|refine Be (ndF hn) ?_|refine Be (ndF hd) ?_|refine Bc (jew n _) ?_|refine Bc (qlv n.x n.y (hi+n.rad) _ _ w6 hb) ?_|refine Be Q8H ?_|refine Bc (jgb e n lo hi _ he hn hd) ?_|refine Be Q96 ?_|refine Bf Q96 ?_|refine Be Q8I ?_|refine Bf Q8I ?_|fail)|refine qah Q8I ?_)
   all_goals first|rfl|(rw[hc])
  ·rw[show qcf e n lo hi=(e,0) from by unfold qcf;rw[if_neg Q8G,if_neg Q8G]];refine Q1s ?_;repeat' (first|(refine Bb ?_;first|with_reducible (first|refine Ba Q8H ?_|refine Ba (qab _ _ _) ?_|refine Ba (qaa _ _) ?_|refine Bk ?_|refine Ba rfl ?_|refine Ba ⟨by kernel_rfl,by kernel_rfl⟩ ?_|refine Bj ?_|refine Bh ?_|refine Bi ?_)|refine Bc (jd6 _ _ _ _ _ _) ?_|refine Bc (je6 _ _ _) ?_|refine Be (ndF he) ?_|refine Be (ndF hn) ?_|refine Be (ndF hd) ?_|refine Bc (jew n _) ?_|refine Bc (qlv n.x n.y (hi+n.rad) _ _ w6 hb) ?_|refine Be Q8H ?_|refine Bc (jgb e n lo hi _ he hn hd) ?_|refine Be Q96 ?_|refine Bf Q96 ?_|refine Be Q8I ?_|refine Bf Q8I ?_|fail)|refine qah Q8I ?_)
   all_goals rfl
theorem q9c (e n:El) (lo hi:Int) (h:Hp) (he:e.may) (hn:n.may) (hd:jfy lo hi):qaf prog 173 [elE e,elE n,xc lo,xc hi] h (.tuple #[elE (qb1 e n lo hi).1,xc (qb1 e n lo hi).2]) [] []:=
 qai rfl rfl (call173 _) (q4d e n lo hi he hn hd)
theorem q0m (n:El) (hi:Int) (hn:n.may) (hd:0<=hi/\hi<=4194304) (W:World):xa 174 #[elE n,xc hi] W (.tuple #[elE (qbo n hi).1,xc (qbo n hi).2]):=by
 have hr:=(qlo hn).2.1;have hn2:=hn;unfold El.may jed at hn2;have w6:IntKind.i64.wrap (hi+n.rad)=hi+n.rad:=jdx _ Q8G Q8G;unfold qbo;rw[if_pos ⟨hn,hd⟩];by_cases hb:4194304<hi+n.rad
 ·rw[if_pos hb];refine qac (G:=tys) W tysOK mixed func174 Q8I Q8I Q8I ?_;repeat' (first|(refine Bb ?_;first|with_reducible (first|refine Ba Q8H ?_|refine Ba (qab _ _ _) ?_|refine Ba (qaa _ _) ?_|refine Bk ?_|refine Ba rfl ?_|refine Ba ⟨by kernel_rfl,by kernel_rfl⟩ ?_|refine Bj ?_|refine Bh ?_|refine Bi ?_)|refine Bc (jd6 _ _ _ _ _ _) ?_|refine Be (ndF hn) ?_|refine Be Q8S ?_|refine Bc (jew n _) ?_|refine Bf (by rw[xh,w6];exact hb) ?_)|refine qah Q8I ?_)
  all_goals rfl
 ·rw[if_neg hb];refine qac (G:=tys) W tysOK mixed func174 Q8I Q8I Q8I ?_;repeat' (first|(refine Bb ?_;first|with_reducible (first|refine Ba Q8H ?_|refine Ba (qab _ _ _) ?_|refine Ba (qaa _ _) ?_|refine Bk ?_|refine Ba rfl ?_|refine Ba ⟨by kernel_rfl,by kernel_rfl⟩ ?_|refine Bj ?_|refine Bh ?_|refine Bi ?_)|refine Bc (jd6 _ _ _ _ _ _) ?_|refine Be (ndF hn) ?_|refine Be Q8S ?_|refine Bc (jew n _) ?_|refine Be (by rw[xk,w6];exact hb) ?_|with_reducible refine N.max2 ?_|refine Bc (qh1 n.x n.y (max 1 (hi+n.rad)) _ _ (by rw[w6]) hn2.1 Q8G) ?_)|refine qah Q8I ?_)
  all_goals rfl
theorem qu6 (n:El) (hi:Int) (h:Hp) (hn:n.may) (hd:0<=hi/\hi<=4194304):qaf prog 174 [elE n,xc hi] h (.tuple #[elE (qbo n hi).1,xc (qbo n hi).2]) [] []:=
 qai rfl rfl (call174 _) (q0m n hi hn hd)
open Go Go.RowKit Sx
theorem neB {a:Int} (h:¬ a=0):(a != 0)=true:=by simpa using h
abbrev fiF (f:Fil):Chunk:=fiC f.most f.valid f.e.x f.e.y f.e.a f.e.b f.e.d
theorem fi_re {f:Fil}:((fiF f).own=true->(fiF f).own=true/\7<=(fiF f).n)/\(fiF f).n<=(fiF f).n/\qbb ix (fiF f) (fiF f):=⟨fun _=>⟨rfl,nlr _⟩,nlr _,re7⟩
def jk0 (f:Fil) (e:El):Int:=if e.may then (if f.most<e.tr then 2 else 0) else 1
theorem q0n (f:Fil) (e:El) (i:Nat) (h:Hp) (hi:h[i]?=some (some (fiF f))):qaf prog 30 [xd i,elE e] h (xc (jk0 f e)) [(i,fiF (f.set e))] []:=by
 unfold jk0 Fil.set;by_cases hm:e.may
 ·have ht:=trf hm;rw[if_pos hm];by_cases ho:f.most<e.tr
  ·rw[if_pos ho,if_neg (fun h=>by omega)];exact q8a f.most f.valid f.e.x f.e.y f.e.a f.e.b f.e.d e.x e.y e.a e.b e.d i h hi hm Q8G
  ·rw[if_neg ho,if_pos ⟨hm,by omega⟩];exact qzc f.most f.valid f.e.x f.e.y f.e.a f.e.b f.e.d e.x e.y e.a e.b e.d i h hi hm Q8G
 ·rw[if_neg hm,if_neg (fun h=>hm h.1)];exact qzb f.most f.valid f.e.x f.e.y f.e.a f.e.b f.e.d e.x e.y e.a e.b e.d i h hi hm
theorem q0o (f:Fil) (r:El) (c:Int) (hc:c=0\/c=3\/c=1) (i:Nat) (h:Hp) (hi:h[i]?=some (some (fiF f))):qaf prog 143 [xd i,elE r,xc c] h (xc c) [(i,fiF (f.took (r,c)))] []:=by
 rcases hc with rfl|rfl|rfl
 ·refine qal (G:=tys) [⟨i,_,fiF f,fiF (f.took (r,0))⟩] [] [xd 0,elE r,xc 0] tysOK mixed func143 Q8I (call143) ⟨hi,xb⟩ ⟨fi_re,xb⟩ Q8N xb Q6G ?_;repeat' (first|(refine Bb ?_;first|with_reducible (first|refine Ba Q8H ?_|refine Ba (qab _ _ _) ?_|refine Ba (qaa _ _) ?_|refine Bk ?_|refine Ba rfl ?_|refine Ba ⟨by kernel_rfl,by kernel_rfl⟩ ?_|refine Bj ?_|refine Bh ?_|refine Bi ?_)|refine Bf Q8H ?_|refine Be Q8H ?_|refine Ba (.plain rfl) ?_|refine Ba ⟨⟨_,rfl,id,nlr _,Q8W⟩,xb⟩ ?_|refine Ba xb ?_|exact Bg|fail)|refine qah Q8I ?_)
 ·refine qal (G:=tys) [⟨i,_,fiF f,fiF (f.took (r,3))⟩] [] [xd 0,elE r,xc 3] tysOK mixed func143 Q8I (call143) ⟨hi,xb⟩ ⟨fi_re,xb⟩ Q8N xb Q6G ?_;repeat' (first|(refine Bb ?_;first|with_reducible (first|refine Ba Q8H ?_|refine Ba (qab _ _ _) ?_|refine Ba (qaa _ _) ?_|refine Bk ?_|refine Ba rfl ?_|refine Ba ⟨by kernel_rfl,by kernel_rfl⟩ ?_|refine Bj ?_|refine Bh ?_|refine Bi ?_)|refine Be Q8H ?_|refine Bf Q8H ?_|refine Bc (q9b f.most f.valid f.e.x f.e.y f.e.a f.e.b f.e.d 0 _ Q8I) ?_|refine Ba (.plain rfl) ?_|refine Ba ⟨⟨_,rfl,id,nlr _,Q8W⟩,xb⟩ ?_|refine Ba xb ?_|exact Bg|fail)|refine qah Q8I ?_)
 ·refine qal (G:=tys) [⟨i,_,fiF f,fiF (f.took (r,1))⟩] [] [xd 0,elE r,xc 1] tysOK mixed func143 Q8I (call143) ⟨hi,xb⟩ ⟨fi_re,xb⟩ Q8N xb Q6G ?_;repeat' (first|(refine Bb ?_;first|with_reducible (first|refine Ba Q8H ?_|refine Ba (qab _ _ _) ?_|refine Ba (qaa _ _) ?_|refine Bk ?_|refine Ba rfl ?_|refine Ba ⟨by kernel_rfl,by kernel_rfl⟩ ?_|refine Bj ?_|refine Bh ?_|refine Bi ?_)|refine Be Q8H ?_|refine Ba (.plain rfl) ?_|refine Ba ⟨⟨_,rfl,id,nlr _,Q8W⟩,xb⟩ ?_|refine Ba xb ?_|exact Bg|fail)|refine qah Q8I ?_)
theorem qsx (e n:El) (lo hi:Int):(qb1 e n lo hi).2=0\/(qb1 e n lo hi).2=3\/(qb1 e n lo hi).2=1:=by
 unfold qb1;split
 ·split
  ·exact .inr (.inl rfl)
  ·unfold qcf;split
   ·exact .inr (.inl rfl)
   ·split
    ·split
     ·exact .inr (.inl rfl)
     ·split<;>exact .inl rfl
    ·exact .inl rfl
 ·exact .inr (.inr rfl)
def qrf (f:Fil) (n:El) (lo hi:Int):Int:=if f.valid then (qb1 f.e n lo hi).2 else if (qbo n hi).2=0 then jk0 f (qbo n hi).1 else (qbo n hi).2
def jia (f:Fil) (e:El):Int:=if f.valid then (fuseF f.e e).2 else jk0 f e
theorem q4e (f:Fil) (n:El) (lo hi:Int) (he:f.valid=true->f.e.may) (hn:n.may) (hd:jfy lo hi) (i:Nat) (h:Hp) (hi':h[i]?=some (some (fiF f))):qaf prog 148 [xd i,elE n,xc lo,xc hi] h (xc (qrf f n lo hi)) [(i,fiF (f.range n lo hi))] []:=by
 rcases qcv f.valid with hv|hv
 ·rw[show f.range n lo hi=(if (qbo n hi).2=0 then f.set (qbo n hi).1 else f) from by unfold Fil.range;rw[hv];rfl,show qrf f n lo hi=(if (qbo n hi).2=0 then jk0 f (qbo n hi).1 else (qbo n hi).2) from by unfold qrf;rw[hv];rfl];have hd2:0<=hi/\hi<=4194304:=by have h1:=hd.1;have h2:=hd.2.1;have h3:=hd.2.2;omega
  by_cases ha:(qbo n hi).2=0
  ·rw[if_pos ha,if_pos ha];refine qal (G:=tys) [⟨i,_,fiF f,fiF (f.set (qbo n hi).1)⟩] [] [xd 0,elE n,xc lo,xc hi] tysOK mixed func148 Q8I (call148) ⟨hi',xb⟩ ⟨fi_re,xb⟩ Q8N xb Q7k ?_;repeat' (first|(refine Bb ?_;first|with_reducible (first|refine Ba Q8H ?_|refine Ba (qab _ _ _) ?_|refine Ba (qaa _ _) ?_|refine Bk ?_|refine Ba rfl ?_|refine Ba ⟨by kernel_rfl,by kernel_rfl⟩ ?_|refine Bj ?_|refine Bh ?_|refine Bi ?_)|refine Be Q8H ?_|refine Be hv ?_|refine Bc (qu6 n hi _ hn hd2) ?_|refine Be (by rw[ha];rfl) ?_|refine Bc (q0n f (qbo n hi).1 0 _ Q8I) ?_|refine Ba (.plain rfl) ?_|refine Ba ⟨⟨_,rfl,id,nlr _,Q8W⟩,xb⟩ ?_|refine Ba xb ?_|exact Bg|fail)|refine qah Q8I ?_)
  ·rw[if_neg ha,if_neg ha];refine qal (G:=tys) [⟨i,_,fiF f,fiF f⟩] [] [xd 0,elE n,xc lo,xc hi] tysOK mixed func148 Q8I (call148) ⟨hi',xb⟩ ⟨fi_re,xb⟩ Q8N xb Q7k ?_;repeat' (first|(refine Bb ?_;first|with_reducible (first|refine Ba Q8H ?_|refine Ba (qab _ _ _) ?_|refine Ba (qaa _ _) ?_|refine Bk ?_|refine Ba rfl ?_|refine Ba ⟨by kernel_rfl,by kernel_rfl⟩ ?_|refine Bj ?_|refine Bh ?_|refine Bi ?_)|refine Be Q8H ?_|refine Be hv ?_|refine Bc (qu6 n hi _ hn hd2) ?_|refine Bf (neB ha) ?_|refine Ba (.plain rfl) ?_|refine Ba ⟨⟨_,rfl,id,nlr _,Q8W⟩,xb⟩ ?_|refine Ba xb ?_|exact Bg|fail)|refine qah Q8I ?_)
 ·rw[show f.range n lo hi=f.took (qb1 f.e n lo hi) from by unfold Fil.range;rw[hv];rfl,show qrf f n lo hi=(qb1 f.e n lo hi).2 from by unfold qrf;rw[hv];rfl];refine qal (G:=tys) [⟨i,_,fiF f,fiF (f.took (qb1 f.e n lo hi))⟩] [] [xd 0,elE n,xc lo,xc hi] tysOK mixed func148 Q8I (call148) ⟨hi',xb⟩ ⟨fi_re,xb⟩ Q8N xb Q7k ?_
  repeat' (first|(refine Bb ?_;first|with_reducible (first|refine Ba Q8H ?_|refine Ba (qab _ _ _) ?_|refine Ba (qaa _ _) ?_|refine Bk ?_|refine Ba rfl ?_|refine Ba ⟨by kernel_rfl,by kernel_rfl⟩ ?_|refine Bj ?_|refine Bh ?_|refine Bi ?_)|refine Be Q8H ?_|refine Bf hv ?_|refine Bc (q9c f.e n lo hi _ (he hv) hn hd) ?_|refine Bc (q0o f (qb1 f.e n lo hi).1 (qb1 f.e n lo hi).2 (qsx _ _ _ _) 0 _ Q8I) ?_|refine Ba (.plain rfl) ?_|refine Ba ⟨⟨_,rfl,id,nlr _,Q8W⟩,xb⟩ ?_|refine Ba xb ?_|exact Bg|fail)|refine qah Q8I ?_)
theorem q9d (f:Fil) (e:El) (he:f.valid=true->f.e.may) (hm:e.may) (i:Nat) (h:Hp) (hi:h[i]?=some (some (fiF f))):qaf prog 120 [xd i,elE e] h (xc (jia f e)) [(i,fiF (f.meet e))] []:=by
 rcases qcv f.valid with hv|hv
 ·rw[show f.meet e=f.set e from by unfold Fil.meet;rw[hv];rfl,show jia f e=jk0 f e from by unfold jia;rw[hv];rfl];refine qal (G:=tys) [⟨i,_,fiF f,fiF (f.set e)⟩] [] [xd 0,elE e] tysOK mixed func120 Q8I (call120) ⟨hi,xb⟩ ⟨fi_re,xb⟩ Q8N xb Q6E ?_;repeat' (first|(refine Bb ?_;first|with_reducible (first|refine Ba Q8H ?_|refine Ba (qab _ _ _) ?_|refine Ba (qaa _ _) ?_|refine Bk ?_|refine Ba rfl ?_|refine Ba ⟨by kernel_rfl,by kernel_rfl⟩ ?_|refine Bj ?_|refine Bh ?_|refine Bi ?_)|refine Be Q8H ?_|refine Be hv ?_|refine Bc (q0n f e 0 _ Q8I) ?_|refine Ba (.plain rfl) ?_|refine Ba ⟨⟨_,rfl,id,nlr _,Q8W⟩,xb⟩ ?_|refine Ba xb ?_|exact Bg|fail)|refine qah Q8I ?_)
 ·rw[show f.meet e=f.took (fuseF f.e e) from by unfold Fil.meet;rw[hv];rfl,show jia f e=(fuseF f.e e).2 from by unfold jia;rw[hv];rfl];have hc:(fuseF f.e e).2=0\/(fuseF f.e e).2=3\/(fuseF f.e e).2=1:=by
   rcases qlu (he hv) hm with ⟨h1,_⟩|h1
   ·exact .inl h1
   ·exact .inr (.inl (by rw[h1]))
  refine qal (G:=tys) [⟨i,_,fiF f,fiF (f.took (fuseF f.e e))⟩] [] [xd 0,elE e] tysOK mixed func120 Q8I (call120) ⟨hi,xb⟩ ⟨fi_re,xb⟩ Q8N xb Q6E ?_;repeat' (first|(refine Bb ?_;first|with_reducible (first|refine Ba Q8H ?_|refine Ba (qab _ _ _) ?_|refine Ba (qaa _ _) ?_|refine Bk ?_|refine Ba rfl ?_|refine Ba ⟨by kernel_rfl,by kernel_rfl⟩ ?_|refine Bj ?_|refine Bh ?_|refine Bi ?_)|refine Be Q8H ?_|refine Bf hv ?_|refine Bc (qi2 f.e e _ (he hv) hm) ?_|refine Bc (q0o f (fuseF f.e e).1 (fuseF f.e e).2 hc 0 _ Q8I) ?_|refine Ba (.plain rfl) ?_|refine Ba ⟨⟨_,rfl,id,nlr _,Q8W⟩,xb⟩ ?_|refine Ba xb ?_|exact Bg|fail)|refine qah Q8I ?_)
theorem nyT {p:Prop} [Decidable p] (h:¬ p):(!decide p)=true:=by rw[xf h];rfl
theorem ynT {p:Prop} [Decidable p] (h:p):(!decide p)=false:=by rw[xi h];rfl
theorem jqs {k:Int} (h:0<k):IntKind.i64.wrap ((4194304:Int).tdiv k)=4194304 / k:=by
 rw[Int.tdiv_eq_ediv_of_nonneg Q8H];have h1:4194304 / k<=4194304:=Int.ediv_le_self _ Q8H;have h2:0<=4194304 / k:=Int.ediv_nonneg Q8H Q8G;exact jdx _ Q8G Q8G
theorem q0p (e:El) (r r':Int) (h:Hp) (hr':r'=r) (he:e.may) (hr:0<=r/\r<=4194304):qaf prog 188 [elE e,xc r'] h (.tuple #[elE (qes e r).1,xc (qes e r).2]) [] []:=by subst hr';exact q0b e r' h he hr
theorem jcu (e:El) (s k:Int) (he:e.may) (hs:0<=s) (hk:0<=k) (W:World):xa 164 #[elE e,xc s,xc k] W (.tuple #[elE (jga e s k).1,xc (jga e s k).2]):=by
 unfold jga;rw[if_pos ⟨he,hs,hk⟩];by_cases h0:0<k
 ·have hq:=jqs h0;by_cases h1:4194304 / k<s
  ·rw[if_pos ⟨h0,h1⟩];refine Q4d ?_;repeat' (first|(refine Bb ?_;first|with_reducible (first|refine Ba Q8H ?_|refine Ba (qab _ _ _) ?_|refine Ba (qaa _ _) ?_|refine Bk ?_|refine Ba rfl ?_|refine Ba ⟨by kernel_rfl,by kernel_rfl⟩ ?_|refine Bj ?_|refine Bh ?_|refine Bi ?_)|refine Bc (jd6 _ _ _ _ _ _) ?_|refine Be (ynT he) ?_|refine Be Q8S ?_|refine Bf Q8X ?_|refine Ba Q8G ?_|refine Bf (by rw[hq,xh];exact h1) ?_|fail)|refine qah Q8I ?_)
   all_goals rfl
  ·rw[if_neg (fun h=>h1 h.2)];have hp0:0<=s*k:=xy hs hk;have hp:s*k<=4194304:=(Int.le_ediv_iff_mul_le h0).1 Q8G;have hw:IntKind.i64.wrap (s*k)=s*k:=jdx _ Q8G Q8G;refine Q4d ?_;repeat' (first|(refine Bb ?_;first|with_reducible (first|refine Ba Q8H ?_|refine Ba (qab _ _ _) ?_|refine Ba (qaa _ _) ?_|refine Bk ?_|refine Ba rfl ?_|refine Ba ⟨by kernel_rfl,by kernel_rfl⟩ ?_|refine Bj ?_|refine Bh ?_|refine Bi ?_)|refine Bc (jd6 _ _ _ _ _ _) ?_|refine Be (ynT he) ?_|refine Be Q8S ?_|refine Bf Q8X ?_|refine Ba Q8G ?_|refine Be (by rw[hq,xk];exact h1) ?_|refine Bc (q0p e (s*k) _ _ hw he ⟨hp0,hp⟩) ?_|fail)|refine qah Q8I ?_)
   all_goals rfl
 ·obtain rfl:k=0:=by omega
  rw[if_neg (fun h=>by omega)];have hw:IntKind.i64.wrap (s*0)=s*0:=by rw[Int.mul_zero];rfl
  refine Q4d ?_;repeat' (first|(refine Bb ?_;first|with_reducible (first|refine Ba Q8H ?_|refine Ba (qab _ _ _) ?_|refine Ba (qaa _ _) ?_|refine Bk ?_|refine Ba rfl ?_|refine Ba ⟨by kernel_rfl,by kernel_rfl⟩ ?_|refine Bj ?_|refine Bh ?_|refine Bi ?_)|refine Bc (jd6 _ _ _ _ _ _) ?_|refine Be (ynT he) ?_|refine Be Q8S ?_|refine Bc (q0p e (s*0) _ _ hw he ⟨by omega,by omega⟩) ?_|fail)|refine qah Q8I ?_)
  all_goals rfl
theorem jon (e:El) (s k:Int) (h:Hp) (he:e.may) (hs:0<=s) (hk:0<=k):qaf prog 164 [elE e,xc s,xc k] h (.tuple #[elE (jga e s k).1,xc (jga e s k).2]) [] []:=
 qai rfl rfl (call164 _) (jcu e s k he hs hk)
theorem q4f (t:Int) (W:World):xa 163 #[xc t] W (.bool (decide (qbc t))):=by
 by_cases h0:0<=t
 ·by_cases h1:t<=1000000
  ·rw[xi (show qbc t from⟨h0,h1⟩)];refine Q4e ?_;repeat' (first|(refine Bb ?_;first|with_reducible (first|refine Ba Q8H ?_|refine Ba (qab _ _ _) ?_|refine Ba (qaa _ _) ?_|refine Bk ?_|refine Ba rfl ?_|refine Ba ⟨by kernel_rfl,by kernel_rfl⟩ ?_|refine Bj ?_|refine Bh ?_|refine Bi ?_)|refine Be Q8S ?_|refine Bf Q8X ?_|fail)|refine qah Q8I ?_)
   ·rw[xi h1]
  ·rw[xf (show ¬ qbc t from fun h=>h1 h.2)];refine Q4e ?_;repeat' (first|(refine Bb ?_;first|with_reducible (first|refine Ba Q8H ?_|refine Ba (qab _ _ _) ?_|refine Ba (qaa _ _) ?_|refine Bk ?_|refine Ba rfl ?_|refine Ba ⟨by kernel_rfl,by kernel_rfl⟩ ?_|refine Bj ?_|refine Bh ?_|refine Bi ?_)|refine Be Q8S ?_|refine Bf Q8X ?_|fail)|refine qah Q8I ?_)
   ·rw[xf h1]
 ·rw[xf (show ¬ qbc t from fun h=>h0 h.1)];refine Q4e ?_;repeat' (first|(refine Bb ?_;first|with_reducible (first|refine Ba Q8H ?_|refine Ba (qab _ _ _) ?_|refine Ba (qaa _ _) ?_|refine Bk ?_|refine Ba rfl ?_|refine Ba ⟨by kernel_rfl,by kernel_rfl⟩ ?_|refine Bj ?_|refine Bh ?_|refine Bi ?_)|refine Be Q8S ?_|refine Bf Q8X ?_|fail)|refine qah Q8I ?_)
  all_goals rfl
theorem qew (t:Int) (h:Hp):qaf prog 163 [xc t] h (.bool (decide (qbc t))) [] []:=
 qai rfl rfl (call163 _) (q4f t)
theorem q9e (w now k:Int) (W:World):xa 146 #[xc w,xc now,xc k] W (xc (qeu w now k)):=by
 unfold qeu;by_cases h1:qbc w
 ·by_cases h2:qbc now
  ·by_cases h3:qbc k
   ·rw[if_pos ⟨h1,h2,h3⟩];have a1:=h1.1;have a2:=h1.2;have b1:=h2.1;have b2:=h2.2;have c1:=h3.1;have c2:=h3.2;have e1:IntKind.i64.wrap (now-w)=now-w:=jdx _ Q8G Q8G;have e2:IntKind.i64.wrap (2*k)=2*k:=jdx _ Q8G Q8G;refine qac (G:=tys) W tysOK mixed func146 Q8I Q8I Q8I ?_;repeat' (first|(refine Bb ?_;first|with_reducible (first|refine Ba Q8H ?_|refine Ba (qab _ _ _) ?_|refine Ba (qaa _ _) ?_|refine Bk ?_|refine Ba rfl ?_|refine Ba ⟨by kernel_rfl,by kernel_rfl⟩ ?_|refine Bj ?_|refine Bh ?_|refine Bi ?_)|refine Bc (qew _ _) ?_|refine Be (ynT h1) ?_|refine Be (ynT h2) ?_|refine Be (ynT h3) ?_|refine Bf (nyT h1) ?_|refine Bf (nyT h2) ?_|refine Bf (nyT h3) ?_|with_reducible refine N.max2 ?_|fail)|refine qah Q8I ?_)
    ·rw[e1,e2,jdx (max 0 (now-w)+2*k) Q8G Q8G,jdx _ Q8G Q8G]
   ·rw[if_neg (fun h=>h3 h.2.2)];exact Q0J
  ·rw[if_neg (fun h=>h2 h.2.1)];exact Q0J
 ·rw[if_neg (fun h=>h1 h.1)];exact Q0J
theorem q6n (w now k:Int) (h:Hp):qaf prog 146 [xc w,xc now,xc k] h (xc (qeu w now k)) [] []:=
 qai rfl rfl (call146 _) (q9e w now k)
theorem qlw (w now k:Int):0<=qeu w now k:=by
 unfold qeu;split
 ·rename_i h;have:=h.2.2.1;omega
 ·exact yp _
theorem q0q (e:El) (w now s k:Int) (W:World):xa 141 #[elE e,xc w,xc now,xc s,xc k] W (.tuple #[elE (qb2 e w now s k).1,xc (qb2 e w now s k).2]):=by
 unfold qb2;by_cases he:e.may
 ·by_cases h1:qbc w
  ·by_cases h2:qbc now
   ·by_cases h3:qbc k
    ·by_cases h4:0<=s
     ·by_cases h5:s<=4194304
      ·rw[if_pos ⟨he,h1,h2,h3,h4,h5⟩];refine qac (G:=tys) W tysOK mixed func141 Q8I Q8I Q8I ?_;repeat' (first|(refine Bb ?_;first|with_reducible (first|refine Ba Q8H ?_|refine Ba (qab _ _ _) ?_|refine Ba (qaa _ _) ?_|refine Bk ?_|refine Ba rfl ?_|refine Ba ⟨by kernel_rfl,by kernel_rfl⟩ ?_|refine Bj ?_|refine Bh ?_|refine Bi ?_)|refine Bc (jd6 _ _ _ _ _ _) ?_|refine Be (ynT he) ?_|refine Bf (nyT he) ?_|refine Bc (qew _ _) ?_|refine Be (ynT h1) ?_|refine Be (ynT h2) ?_|refine Be (ynT h3) ?_|refine Bf (nyT h1) ?_|refine Bf (nyT h2) ?_|refine Bf (nyT h3) ?_|refine Be Q8S ?_|refine Bf Q8X ?_|refine Bc (q6n w now k _) ?_|refine Bc (jon e s (qeu w now k) _ he h4 (qlw _ _ _)) ?_|fail)|refine qah Q8I ?_)
       all_goals rfl
      ·rw[if_neg (fun h=>h5 h.2.2.2.2.2)];exact Q0i
     ·rw[if_neg (fun h=>h4 h.2.2.2.2.1)];exact Q0i
    ·rw[if_neg (fun h=>h3 h.2.2.2.1)];exact Q0i
   ·rw[if_neg (fun h=>h2 h.2.2.1)];exact Q0i
  ·rw[if_neg (fun h=>h1 h.2.1)];exact Q0i
 ·rw[if_neg (fun h=>he h.1)];exact Q0i
theorem q4g (e:El) (w now s k:Int) (h:Hp):qaf prog 141 [elE e,xc w,xc now,xc s,xc k] h (.tuple #[elE (qb2 e w now s k).1,xc (qb2 e w now s k).2]) [] []:=
 qai rfl rfl (call141 _) (q0q e w now s k)
theorem q9f (old fresh:El) (ho:old.may) (hf:fresh.may) (W:World):xa 118 #[elE old,elE fresh] W (.tuple #[elE (qev old fresh).1,xc (qev old fresh).2]):=by
 unfold qev;rw[if_pos hf];by_cases h0:(fuseF old fresh).2=0
 ·rw[if_pos h0];refine qac (G:=tys) W tysOK mixed func118 Q8I Q8I Q8I ?_;repeat' (first|(refine Bb ?_;first|with_reducible (first|refine Ba Q8H ?_|refine Ba (qab _ _ _) ?_|refine Ba (qaa _ _) ?_|refine Bk ?_|refine Ba rfl ?_|refine Ba ⟨by kernel_rfl,by kernel_rfl⟩ ?_|refine Bj ?_|refine Bh ?_|refine Bi ?_)|refine Bc (jd6 _ _ _ _ _ _) ?_|refine Be (ynT hf) ?_|refine Bc (qi2 old fresh _ ho hf) ?_|refine Bf (by rw[h0];rfl) ?_|fail)|refine qah Q8I ?_)
  all_goals rfl
 ·rw[if_neg h0];refine qac (G:=tys) W tysOK mixed func118 Q8I Q8I Q8I ?_;repeat' (first|(refine Bb ?_;first|with_reducible (first|refine Ba Q8H ?_|refine Ba (qab _ _ _) ?_|refine Ba (qaa _ _) ?_|refine Bk ?_|refine Ba rfl ?_|refine Ba ⟨by kernel_rfl,by kernel_rfl⟩ ?_|refine Bj ?_|refine Bh ?_|refine Bi ?_)|refine Bc (jd6 _ _ _ _ _ _) ?_|refine Be (ynT hf) ?_|refine Bc (qi2 old fresh _ ho hf) ?_|refine Be (by simpa using h0) ?_|fail)|refine qah Q8I ?_)
  all_goals rfl
theorem jcv (old fresh:El) (h:Hp) (ho:old.may) (hf:fresh.may):qaf prog 118 [elE old,elE fresh] h (.tuple #[elE (qev old fresh).1,xc (qev old fresh).2]) [] []:=
 qai rfl rfl (call118 _) (q9f old fresh ho hf)
open Go Go.RowKit Sx
variable {p:Nat->Prop}
theorem joo (h0:p 0) (h1:p 1) (h2:p 2) (h3:p 3) (h4:p 4) (h5:p 5) (h6:p 6) (h7:p 7) (h8:p 8) (h9:p 9) (h10:p 10):∀ j,j<11->p j:=fun j hj=>by
 match j,hj with
 | 0,_=>exact h0
 | 1,_=>exact h1
 | 2,_=>exact h2
 | 3,_=>exact h3
 | 4,_=>exact h4
 | 5,_=>exact h5
 | 6,_=>exact h6
 | 7,_=>exact h7
 | 8,_=>exact h8
 | 9,_=>exact h9
 | 10,_=>exact h10
 | k+11,h=>exact absurd h Q8G
theorem jkq (h0:p 0) (h1:p 1) (h2:p 2) (h3:p 3) (h4:p 4) (h5:p 5) (h6:p 6) (h7:p 7) (h8:p 8) (h9:p 9) (h10:p 10) (h11:p 11) (h12:p 12) (h13:p 13) (h14:p 14):∀ j,j<15->p j:=fun j hj=>by
 match j,hj with
 | 0,_=>exact h0
 | 1,_=>exact h1
 | 2,_=>exact h2
 | 3,_=>exact h3
 | 4,_=>exact h4
 | 5,_=>exact h5
 | 6,_=>exact h6
 | 7,_=>exact h7
 | 8,_=>exact h8
 | 9,_=>exact h9
 | 10,_=>exact h10
 | 11,_=>exact h11
 | 12,_=>exact h12
 | 13,_=>exact h13
 | 14,_=>exact h14
 | k+15,h=>exact absurd h Q8G
abbrev ndU (D:NdS):Chunk:=⟨false,11,[(0,11,.agg #[xc (D.C 0),xc (D.C 1),xc (D.C 2),xc (D.C 3),xc (D.C 4),xc (D.C 5),xc (D.C 6),xc (D.C 7),xc (D.C 8),xc (D.C 9),xc (D.C 10)])]⟩
abbrev ndV (D:NdS) (f t:Nat):Chunk:=⟨false,15,[(0,15,.agg #[xc (D.C 0),xc (D.C 1),xc (D.C 2),xc (D.C 3),xc (D.C 4),xc (D.C 5),xc (D.C 6),xc (D.C 7),xc (D.C 8),xc (D.C 9),xc (D.C 10),xc D.id,xc D.boot,xd f,xd t])]⟩
structure ji7 (c:Chunk) (D:NdS) (f t:Nat):Prop where
 n:15<=c.n
 f:∀ j,j<15->c.f j=(ndV D f t).f j
theorem q0r (D:NdS) (f t b m:Nat):ji7 (ndC D f t b m) D f t:=⟨xO rfl,jkq rfl rfl rfl rfl rfl rfl rfl rfl rfl rfl rfl rfl rfl rfl rfl⟩
theorem qj3 (D:NdS) (f t:Nat):ji7 (ndV D f t) D f t:=⟨xO rfl,jkq rfl rfl rfl rfl rfl rfl rfl rfl rfl rfl rfl rfl rfl rfl rfl⟩
theorem jcw {c:Chunk} {D:NdS} {f t:Nat} (h:ji7 c D f t):qbb ix c (ndU D):=fun j hj=>by
 have hj:j<11:=hj;rw[h.f j Q8G];exact joo (p:=fun j=>Re1 ix ((ndV D f t).f j) ((ndU D).f j)) (.plain rfl) (.plain rfl) (.plain rfl) (.plain rfl) (.plain rfl) (.plain rfl) (.plain rfl) (.plain rfl) (.plain rfl) (.plain rfl) (.plain rfl) j hj
theorem qu7 {c:Chunk} {D:NdS} {f t f' t':Nat} (h:ji7 c D f t) (hf:ixK ix f'=some f) (ht:ixK ix t'=some t):qbb ix c (ndV D f' t'):=fun j hj=>by
 have hj:j<15:=hj;rw[h.f j hj];exact jkq (p:=fun j=>Re1 ix ((ndV D f t).f j) ((ndV D f' t').f j)) (.plain rfl) (.plain rfl) (.plain rfl) (.plain rfl) (.plain rfl) (.plain rfl) (.plain rfl) (.plain rfl) (.plain rfl) (.plain rfl) (.plain rfl) (.plain rfl) (.plain rfl) (.ptr hf) (.ptr ht) j hj
abbrev Ent.el (e:Ent):El:=⟨e.x,e.y,e.a,e.b,e.d⟩
def qcw (C:Nat->Int) (T:Tbl) (k now:Int):El×Bool:=
 match dGet T.E k with
 | some e=>if e.has=true then ((qb2 e.el e.when_ now (C 2) (C 4)).1,decide ((qb2 e.el e.when_ now (C 2) (C 4)).2=0)) else (El.o,false)
 | none=>(El.o,false)
def Tbl.keep (T:Tbl) (k:Int) (g:El) (now:Int):Tbl:=
 match dGet T.E k with
 | some e=>⟨T.most,dPut T.E k (e.put g.x g.y g.a g.b g.d now),T.lives⟩
 | none=>T
def jhq (C:Nat->Int) (T:Tbl) (k:Int) (e:El) (w now:Int):Tbl:=
 if (qb2 e w now (C 2) (C 4)).2=0 then T.keep k (if (qcw C T k now).2=true then (qev (qcw C T k now).1 (qb2 e w now (C 2) (C 4)).1).1 else (qb2 e w now (C 2) (C 4)).1) now else T
theorem q0s {w now s k:Int} (h:(qb2 e w now s k).2=0):qbc now/\(qb2 e w now s k).1.may:=by
 unfold qb2 at h ⊢;split at h
 ·rename_i hh;rw[if_pos hh];exact⟨hh.2.2.1,q3z (g:=(jga e s (qeu w now k)).1) (Prod.ext rfl h)⟩
 ·exact absurd h (by show ¬ (1:Int)=0;decide)
theorem qjo {C:Nat->Int} {T:Tbl} {k now:Int} (h:(qcw C T k now).2=true):(qcw C T k now).1.may:=by
 unfold qcw at h ⊢;split at h
 ·rename_i e he;split at h
  ·rename_i hh;rw[if_pos hh];exact(q0s (of_decide_eq_true h)).2
  ·exact absurd h Q8H
 ·exact absurd h Q8H
theorem q0t {old fresh:El} (ho:old.may) (hf:fresh.may):(qev old fresh).1.may:=by
 unfold qev;rw[if_pos hf];split
 ·rename_i h;rcases qlu ho hf with h1|h1
  ·exact h1.2
  ·rw[h1] at h;exact absurd h Q8H
 ·exact hf
theorem jlz (T:Tbl) (k:Int) (g:El) (now:Int) (hk : -9223372036854775808<=k/\k<=9223372036854775807) (hg:g.may) (ht:qbc now) (i:Nat) (h:Hp) (hi:h[i]?=some (some (tblC T))) :
  qaf prog 119 [xd i,xc k,elE g,xc now] h (xc (match dGet T.E k with|some _=>0|none=>7)) [(i,tblC (T.keep k g now))] []:=by
 unfold Tbl.keep
 cases hd:dGet T.E k with
 | none=>exact jnx T k g.x g.y g.a g.b g.d now hk hd i h hi
 | some e=>exact jny T k g.x g.y g.a g.b g.d now hk e hd hg ht i h hi
theorem ji8 (D:NdS) (f t:Nat) (c:Chunk) (hc:ji7 c D f t) (e:El) (w now:Int) (i:Nat) (h:Hp) (hi:h[i]?=some (some c)) :
  qaf prog 116 [xd i,elE e,xc w,xc now] h (.tuple #[elE (qb2 e w now (D.C 2) (D.C 4)).1,xc (qb2 e w now (D.C 2) (D.C 4)).2]) [] [i]:=by
 refine qal (G:=tys) [⟨i,_,ndU D,⟨false,0,[]⟩⟩] [] [xd 0,elE e,xc w,xc now] tysOK mixed func116 Q8I (call116) ⟨hi,xb⟩ ⟨⟨fun h=>Q95,by have:=hc.n;show 11<=c.n;omega,jcw hc⟩,xb⟩ Q8N xb Q7k ?_
 repeat' (refine Bb ?_;first|refine Q55 ?_|refine Bc (q4g e w now _ _ _) ?_|refine Q5q ?_|refine Ba xb ?_|exact Bg|fail)
theorem qu8 (D:NdS) (T:Tbl) (c cf:Chunk) (k now:Int) (i1 i2 i3:Nat) (hc:ji7 c D i2 i3) (h:Hp) (h1:h[i1]?=some (some c)) (h2:h[i2]?=some (some cf)) (h3:h[i3]?=some (some (tblC T))) (hne:[i1,i2,i3].Nodup) :
  qaf prog 117 [xd i1,xc k,xc now] h (.tuple #[elE (qcw D.C T k now).1,.bool (qcw D.C T k now).2]) [(i3,tblC T)] [i1,i2]:=by
 refine qaq (G:=tys) (h:=h) (vs:=[xd i1,xc k,xc now]) (fun _:Unit=>True) (fun _=>_) [⟨i1,_,ndV D 1 2,noC⟩,⟨i2,_,noC,noC⟩,⟨i3,tblC T,tblC T,tblC T⟩] [] [xd 0,xc k,xc now] tysOK mixed func117 Q8I (call117) ⟨h1,h2,h3,xb⟩
  ⟨Q7E,Q6B,Q6w,xb⟩ (by
   simp only[xL,xg,xI,not_or,xK,or_false,and_true] at hne;simp[Apart];omega) ⟨.inl rfl,.inl rfl,.inr ⟨rfl,rfl⟩,xb⟩ xb ⟨.ptr Q8I,.plain rfl,.plain rfl,xb⟩ Opens.same ?_
 rintro⟨⟩ -
 cases hd:dGet T.E k with
 | none=>
  rw[show qcw D.C T k now=(El.o,false) from by unfold qcw;rw[hd]];repeat' (refine Bb ?_;first|refine Q55 ?_|refine Bc (jkb T k hd 2 _ Q8I) ?_|refine Q5e ?_|fail)
  exact Q0K
 | some e=>
  rcases qcv e.has with hh|hh
  ·rw[show qcw D.C T k now=(El.o,false) from by unfold qcw;rw[hd];show(if e.has=true then _ else _)=_;rw[hh];rfl];exact Q1K
  ·rw[show qcw D.C T k now=((qb2 e.el e.when_ now (D.C 2) (D.C 4)).1,decide ((qb2 e.el e.when_ now (D.C 2) (D.C 4)).2=0)) from by unfold qcw;rw[hd];show(if e.has=true then _ else _)=_;rw[hh];rfl];exact Q1K
theorem q6o (D:NdS) (T:Tbl) (c cf:Chunk) (k:Int) (e:El) (w now:Int) (hk : -9223372036854775808<=k/\k<=9223372036854775807) (i1 i2 i3:Nat) (hc:ji7 c D i2 i3) (h:Hp) (h1:h[i1]?=some (some c)) (h2:h[i2]?=some (some cf)) (h3:h[i3]?=some (some (tblC T))) (hne:[i1,i2,i3].Nodup) :
  qaf prog 85 [xd i1,xc k,elE e,xc w,xc now] h (.tuple #[]) [(i3,tblC (jhq D.C T k e w now))] [i1,i2]:=by
 refine qaq (G:=tys) (h:=h) (vs:=[xd i1,xc k,elE e,xc w,xc now]) (fun _:Unit=>True) (fun _=>_) [⟨i1,_,ndV D 1 2,noC⟩,⟨i2,_,noC,noC⟩,⟨i3,tblC T,tblC T,tblC (jhq D.C T k e w now)⟩] [] [xd 0,xc k,elE e,xc w,xc now] tysOK mixed func85 Q8I (call85) ⟨h1,h2,h3,xb⟩
  ⟨Q7E,Q6B,Q6w,xb⟩ (by
   simp only[xL,xg,xI,not_or,xK,or_false,and_true] at hne;simp[Apart];omega) ⟨.inl rfl,.inl rfl,.inr ⟨rfl,rfl⟩,xb⟩ xb ⟨.ptr Q8I,.plain rfl,.plain rfl,.plain rfl,.plain rfl,xb⟩ Opens.same ?_
 rintro⟨⟩ -
 repeat' (refine Bb ?_;first|refine Q55 ?_|fail)
 refine Bb ?_
 refine Bc (ji8 D 1 2 _ (qj3 D 1 2) e w now 0 _ Q8I) ?_
 by_cases hz:(qb2 e w now (D.C 2) (D.C 4)).2=0
 rotate_left
 ·rw[show jhq D.C T k e w now=T from if_neg hz];repeat' (refine Bb ?_;first|refine Q55 ?_|refine Bf (nn hz) ?_|fail)
  exact Q0K
 have hz2:=q0s hz
 rw[show jhq D.C T k e w now=T.keep k (if (qcw D.C T k now).2=true then (qev (qcw D.C T k now).1 (qb2 e w now (D.C 2) (D.C 4)).1).1 else (qb2 e w now (D.C 2) (D.C 4)).1) now from if_pos hz]
 repeat' (refine Bb ?_;first|refine Q55 ?_|refine Be (ni hz) ?_|fail)
 refine Bb ?_
 refine Bc Q8A ?_
 rcases qcv (qcw D.C T k now).2 with hb|hb
 ·rw[if_neg (by rw[hb];decide)];refine Q2r ?_;refine Bc (jlz T k _ now hk hz2.2 hz2.1 2 _ Q8I) ?_;refine Q01 ?_;exact Q0P
 ·rw[if_pos hb];refine Q2r ?_;refine Bc (jcv _ _ _ (qjo hb) hz2.2) ?_;refine Q01 ?_;refine Bc (jlz T k _ now hk (q0t (qjo hb) hz2.2) hz2.1 2 _ Q8I) ?_;refine Q01 ?_;exact Q0P
end Go.Proofs.YtfkngpmgcimdbaaGreat
