/-
  The walks of golden: the best weight for an ellipse and a strip.
-/
import Derived.Test.YtfkngpmgcimdbaaGreatK7
set_option linter.unusedVariables false
set_option linter.unusedSimpArgs false
set_option maxRecDepth 100000
set_option maxHeartbeats 20000000
theorem Go.Proofs.zG:type_of% @Nat.le_add_left:=@Nat.le_add_left
open Go.Proofs.Tryz
namespace Go.Proofs
section
variable{Z Y:Prop}
theorem Q07(h:Z:=by
 refine qak (G:=tys) [⟨a,_,seC true 2 1 s,seC true k m (s.ask (je0 e f) w)⟩,⟨m,_,bC s.emp,bC (s.ask (je0 e f) w).emp⟩,⟨k,_,jlf false 3 4,⟨false,0,[]⟩⟩,⟨i,_,elC false e,⟨false,0,[]⟩⟩,⟨j,_,stC false f,⟨false,0,[]⟩⟩] [] [xd 0,xc w] tysOK mixed func207 Q9S (call207) ⟨ha,hm,hk,hi,hj,xb⟩ ⟨Q9q,b_re (nlr _) _,Q8j,el_re _,st_re _,xb⟩ QaK xb Q83 ?_;repeat' (first|(refine Ba ?_;first|refine Q5P ?_|refine Bb (cQC e f w s.emp hw he hf 2 1 3 4 Q9V _ _ _ _ Q9S Q9S Q9S Q9S) ?_|refine Q6O ?_|refine Q6q ?_|refine Q6T ?_|exact Be|fail)|refine qah Q9S ?_)):Z:=h
theorem Q09(h:Z:=by
 intro l n hok;have hn6:n<=6:=by omega
 have gw:=qdv (je0 e f) b n hn6;have gx:=jhw (je0 e f) b n hn6;rcases hok with ⟨rfl,hn⟩|⟨rfl,hn,hmost⟩
 .refine⟨_,rfl,?_⟩;by_cases h6:n=6
  .subst h6;have e2:(GL.go (je0 e f) b 6).b-(GL.go (je0 e f) b 6).a=2:=by have:=gw.1;simp only[gwide] at this;omega
   exact Q20
  .have hn5:n<6:=by omega
   have gw1:=qdv (je0 e f) b (n+1) Q9R;have gx1:=jhw (je0 e f) b (n+1) Q9R;have hwid:2<(GL.go (je0 e f) b n).b-(GL.go (je0 e f) b n).a:=by have:=gw.1;have:=qkq n hn5;omega
   have w1:IntKind.i64.wrap (IntKind.i64.wrap ((GL.go (je0 e f) b n).a+(GL.go (je0 e f) b n).y)-(GL.go (je0 e f) b n).x)=(GL.go (je0 e f) b n).a+(GL.go (je0 e f) b n).y-(GL.go (je0 e f) b n).x:=by rw[je5 ((GL.go (je0 e f) b n).a+(GL.go (je0 e f) b n).y) Q9R Q9R,je5 _ Q9R Q9R]
   rcases qdb ((GL.go (je0 e f) b n).fx.most (GL.go (je0 e f) b n).fy) with hm|hm
   .exact Q1u
   .have st:(GL.go (je0 e f) b (n+1))=(GL.go (je0 e f) b n).left (je0 e f):=by show GL.step _ _=_;unfold GL.step;rw[if_pos hm]
    by_cases heq:(GL.go (je0 e f) b n).a+(GL.go (je0 e f) b n).y-(GL.go (je0 e f) b n).x=(GL.go (je0 e f) b n).x
    .have st2:(GL.go (je0 e f) b (n+1))=⟨(GL.go (je0 e f) b n).a,(GL.go (je0 e f) b n).y,(GL.go (je0 e f) b n).a+(GL.go (je0 e f) b n).y-(GL.go (je0 e f) b n).x,(GL.go (je0 e f) b n).x,(GL.go (je0 e f) b n).fx,(GL.go (je0 e f) b n).fx,(GL.go (je0 e f) b n).s⟩:=by rw[st];unfold GL.left;rw[if_pos heq]
     exact Q1W
    .have st2:(GL.go (je0 e f) b (n+1))=⟨(GL.go (je0 e f) b n).a,(GL.go (je0 e f) b n).y,(GL.go (je0 e f) b n).a+(GL.go (je0 e f) b n).y-(GL.go (je0 e f) b n).x,(GL.go (je0 e f) b n).x,jfq (je0 e f) ((GL.go (je0 e f) b n).a+(GL.go (je0 e f) b n).y-(GL.go (je0 e f) b n).x),(GL.go (je0 e f) b n).fx,(GL.go (je0 e f) b n).s.ask (je0 e f) ((GL.go (je0 e f) b n).a+(GL.go (je0 e f) b n).y-(GL.go (je0 e f) b n).x)⟩:=by rw[st];unfold GL.left;rw[if_neg heq]
     have hr:0<=(GL.go (je0 e f) b n).a+(GL.go (je0 e f) b n).y-(GL.go (je0 e f) b n).x/\(GL.go (je0 e f) b n).a+(GL.go (je0 e f) b n).y-(GL.go (je0 e f) b n).x<=34:=by have:=gx1.1;rw[st2] at this;exact this
     repeat' (first|(refine Ba ?_;first|refine Q5P ?_|refine Q6Q ?_|refine Bf (by rw[hm];rfl) ?_|refine Q7N ?_|refine Bb (qra e f ((GL.go (je0 e f) b n).a+(GL.go (je0 e f) b n).y-(GL.go (je0 e f) b n).x) _ (GL.go (je0 e f) b n).s w1 hr he hf 4 1 0 2 3 Q9V _ _ _ _ Q9S Q9S Q9S Q9S Q9S) ?_)|refine qah Q9S ?_)
     exact Q2f
 .refine⟨_,rfl,?_⟩;have gw1:=qdv (je0 e f) b (n+1) Q9R;have gx1:=jhw (je0 e f) b (n+1) Q9R;have w1:IntKind.i64.wrap (IntKind.i64.wrap ((GL.go (je0 e f) b n).x+(GL.go (je0 e f) b n).b)-(GL.go (je0 e f) b n).y)=(GL.go (je0 e f) b n).x+(GL.go (je0 e f) b n).b-(GL.go (je0 e f) b n).y:=by rw[je5 ((GL.go (je0 e f) b n).x+(GL.go (je0 e f) b n).b) Q9R Q9R,je5 _ Q9R Q9R]
  have st:(GL.go (je0 e f) b (n+1))=(GL.go (je0 e f) b n).right (je0 e f):=by show GL.step _ _=_;unfold GL.step;rw[if_neg (by rw[hmost];decide)]
  by_cases heq:(GL.go (je0 e f) b n).x+(GL.go (je0 e f) b n).b-(GL.go (je0 e f) b n).y=(GL.go (je0 e f) b n).y
  .have st2:(GL.go (je0 e f) b (n+1))=⟨(GL.go (je0 e f) b n).x,(GL.go (je0 e f) b n).b,(GL.go (je0 e f) b n).y,(GL.go (je0 e f) b n).x+(GL.go (je0 e f) b n).b-(GL.go (je0 e f) b n).y,(GL.go (je0 e f) b n).fy,(GL.go (je0 e f) b n).fy,(GL.go (je0 e f) b n).s⟩:=by rw[st];unfold GL.right;rw[if_pos heq]
   exact Q25
  .have st2:(GL.go (je0 e f) b (n+1))=⟨(GL.go (je0 e f) b n).x,(GL.go (je0 e f) b n).b,(GL.go (je0 e f) b n).y,(GL.go (je0 e f) b n).x+(GL.go (je0 e f) b n).b-(GL.go (je0 e f) b n).y,(GL.go (je0 e f) b n).fy,jfq (je0 e f) ((GL.go (je0 e f) b n).x+(GL.go (je0 e f) b n).b-(GL.go (je0 e f) b n).y),(GL.go (je0 e f) b n).s.ask (je0 e f) ((GL.go (je0 e f) b n).x+(GL.go (je0 e f) b n).b-(GL.go (je0 e f) b n).y)⟩:=by rw[st];unfold GL.right;rw[if_neg heq]
   have hr:0<=(GL.go (je0 e f) b n).x+(GL.go (je0 e f) b n).b-(GL.go (je0 e f) b n).y/\(GL.go (je0 e f) b n).x+(GL.go (je0 e f) b n).b-(GL.go (je0 e f) b n).y<=34:=by have:=gx1.2.1;rw[st2] at this;exact this
   repeat' (first|(refine Ba ?_;first|refine Q5P ?_|refine Q7N ?_|refine Bb (qra e f ((GL.go (je0 e f) b n).x+(GL.go (je0 e f) b n).b-(GL.go (je0 e f) b n).y) _ (GL.go (je0 e f) b n).s w1 hr he hf 4 1 0 2 3 Q9V _ _ _ _ Q9S Q9S Q9S Q9S Q9S) ?_)|refine qah Q9S ?_)
   exact Q2i):Z:=h
theorem Q0j(h:Z:=by
 have hb:i<64:=by have:=of_decide_eq_true hb;omega
 refine Q2v ?_;refine Q5g ?_;refine Bt [0,1,3,4,5] [(2,[6])] Q9W ?_;refine Q2v ?_;refine Bw [18,19] _ Q9W (λh₂ hh=>qss 18 19 i g (λ_=>Ses.o) ((hh 18 Qa2).trans rfl) ((hh 19 Qa2).trans rfl)) λv ms hR=>?_
 obtain⟨q,rfl,rfl⟩:=hR;refine⟨by simp,?_⟩;repeat' (refine Ba ?_;first|refine Q5S ?_|refine Q5U ?_|refine Q6G ?_|refine Q78 ?_|refine N.store _ (jmr C id boot i g _ hb Q9R) ?_|fail)
 refine Ba ?_;refine N.next (i+1,upd g i q) ⟨by show i+1<=64;omega,by show 64-(i+1)<64-i;omega⟩ ?_;repeat' (refine Ba ?_;first|refine Q5P ?_|refine Q6a ?_|refine Bc (by rw[je5 _ Q9R Q9R];rfl) ?_|exact Be|fail)):Z:=h
theorem Q0m(h:Z:=by
 refine qac (G:=tys) W tysOK mixed func141 Q9S Q9S Q9S ?_;repeat' (first|(refine Ba ?_;first|refine Q5P ?_|refine Q6A ?_|refine Bf (ynT he) ?_|refine Bg (nyT he) ?_|refine Q6w ?_|refine Q60 ?_|refine Q64 ?_|fail)|refine qah Q9S ?_)
 all_goals rfl):Z:=h
theorem Q0p(h:Z:=by repeat' (refine Ba ?_;first|refine Q5V ?_|refine Q5R ?_|refine Bc Q88 ?_|refine Q72 ?_|refine Bc (qdr (by show(evL T.E (evP now silent) (r+1)).length=_;rw[e1]) Q9S) ?_|refine Bc Qab ?_|refine Bc (qm7 e1) ?_|exact Be|refine Q6d ?_|refine Q6W ?_|fail)):Z:=h
theorem Q0t(k:Y)(h:Wr Y->Z:=by
 intro kQ;repeat' (refine Ba ?_;first|refine Q5V ?_|refine Q5R ?_|refine Bg (by rw[hw,xh];omega) ?_|refine Q7U ?_|refine Q64 ?_|refine Q60 ?_|fail)
 refine Ba ?_;exact kQ.o):Z:=h ⟨k⟩
theorem Q0U(h:Z:=by
 refine qac (G:=tys) W tysOK mixed func146 Q9S Q9S Q9S ?_;repeat' (first|(refine Ba ?_;first|refine Q5P ?_|refine Q6w ?_|refine Q6X ?_|fail)|refine qah Q9S ?_)
 all_goals rfl):Z:=h
theorem Q1l(k:Y)(h:Wr Y->Z:=by
 intro kQ;refine Q59 ?_;exact kQ.o):Z:=h ⟨k⟩
theorem Q1w(h:Z:=by
 refine Ba ?_;obtain rfl:i=64:=by omega
 refine qa2 (jgn C id boot false 0 0 0 0 0) g 18 2 6 10 14 [] (λl _ hl=>absurd hl Qa2) (λi hi=>absurd hi Qa2) Q9S rfl rfl rfl (jms C id boot g (jgn C id boot false 0 0 0 0 0) rfl rfl rfl rfl rfl rfl rfl) Q9S rfl rfl re7 Q9S Q9S rfl rfl re2 Q9S rfl rfl re2 Q9S (λk hk=>by cases hk) (λk hk=>by cases hk) Q9L ?_;exact Q3r):Z:=h
theorem Q1x(h:Z:=by repeat' (refine Ba ?_;first|refine Q5P ?_|refine Q6a ?_|refine Bc (q0p C id boot _) ?_|exact Be|fail)):Z:=h
theorem Q1C(k:Y)(h:Wr Y->Z:=by
 intro kQ;repeat' (refine Ba ?_;first|refine Q5V ?_|refine Q5R ?_|fail)
 refine Ba ?_;exact kQ.o):Z:=h ⟨k⟩
theorem Q1J(k:Y)(h:Wr Y->Z:=by
 intro kQ;refine qac (G:=tys) W tysOK mixed func173 Q9S Q9S Q9S ?_;exact kQ.o):Z:=h ⟨k⟩
theorem Q1N(k:Y)(h:Wr Y->Z:=by
 intro kQ;repeat' (refine Ba ?_;first|refine Q5V ?_|refine Q5R ?_|refine jks entV _ rfl rfl rfl underlying128 underlying3 ?_|fail)
 refine Ba ?_;exact kQ.o):Z:=h ⟨k⟩
theorem Q1S(k:Y)(h:Wr Y->Z:=by
 intro kQ;repeat' (refine Ba ?_;first|refine Q5V ?_|refine Q5R ?_|refine Q60 ?_|fail)
 refine Ba ?_;exact kQ.o):Z:=h ⟨k⟩
theorem Q1U(h:Z:=by
 repeat' (refine Ba ?_;first|refine Q5P ?_|refine Bj (λhb=>?_) (λhb=>?_)|fail)
 all_goals
  refine jf7 ?_
  simp only[xh,xm,xG,false_iff,true_iff,iff_true,iff_false,reduceCtorEq,yj,xI,yk,xZ] at *
  omega):Z:=h
theorem Q2v(k:Y)(h:Wr Y->Z:=by
 intro kQ;repeat' (refine Ba ?_;first|refine Q5S ?_|refine Q5U ?_|refine Q6G ?_|refine Q78 ?_|refine N.store _ (jmr C id boot i g _ hb Q9R) ?_|fail)
 refine Ba ?_;exact kQ.o):Z:=h ⟨k⟩
theorem Q2A(k:Y)(h:Wr Y->Z:=by
 intro kQ;repeat' (refine Ba ?_;first|refine Q5P ?_|refine Q64 ?_|refine Q60 ?_|fail)
 refine Ba ?_;exact kQ.o):Z:=h ⟨k⟩
theorem Q2M(h:Z:=by
 refine Q0t ?_;refine Bm (α:=EvS) (.yes (r+1) c) [(0,0),(1,1),(2,2),(3,3),(4,4)] (And.intro ⟨hlt,by show 0<(evL T.E (evP now silent) (r+1)).length;rw[e1];exact r2,by show(evL T.E (evP now silent) (r+1)).length<=c;rw[e1];exact r3⟩ Qa9) ?_;exact Q0p):Z:=h
theorem Q30(k:Y)(h:Wr Y->Z:=by
 intro kQ;repeat' (refine Ba ?_;first|refine Q5P ?_|refine Q66 ?_|fail)
 refine Ba ?_;exact kQ.o):Z:=h ⟨k⟩
theorem Q3j(h:Z:=by
 refine Q0t ?_;refine Bm (α:=EvS) (.no (r+1)) [(0,0),(1,1),(2,2),(3,3)] (And.intro ⟨hlt,by show evL T.E (evP now silent) (r+1)=[];rw[e1,r2]⟩ Qa9) ?_;exact Q0p):Z:=h
theorem Q3o(h:Z:=by
 refine qb3 T β 0 1 2 [] qbw (λi hi=>.inl Qa4) hβ Q9S Q9S Q9S Q9S Q9S Q9S Q9S Q9S Q9S Q9V (λk hk=>by cases hk) jg8 (qbn rfl) ?_;exact Q2z):Z:=h
theorem Q3K(h:Z:=by
 refine Bm (α:=Nat) (k+1) [(0,0),(1,1),(2,2),(3,3),(4,4),(5,5),(6,6),(11,11),(12,12),(13,13),(14,14)] ⟨by show k+1<=2;omega,by show 2-(k+1)<2-k;omega⟩ ?_;exact Q0h):Z:=h
theorem Q40(k:Y)(h:Wr Y->Z:=by
 intro kQ;refine Ba ?_;refine Bf Qar ?_;exact kQ.o):Z:=h ⟨k⟩
theorem Q42(k:Y)(h:Wr Y->Z:=by
 intro kQ;refine qac (G:=tys) W tysOK mixed func199 Q9S Q9S Q9S ?_;exact kQ.o):Z:=h ⟨k⟩
theorem Q4a(h:Z:=by
 refine Bm (α:=Nat) (k+1) [(0,0),(1,1),(2,2),(3,3),(4,4),(5,5),(6,6),(7,7)] ⟨by show k+1<=1;omega,by show 1-(k+1)<1-k;omega⟩ ?_;exact Q0h):Z:=h
theorem Q4H(k:Y)(h:Wr Y->Z:=by
 intro kQ;refine Q1l ?_;refine Bk _ (q0m hlt hce rfl Qaj) ?_;refine Q1C ?_;refine N.max2 ?_;rw[q0l];exact kQ.o):Z:=h ⟨k⟩
theorem Q4P(k:Y)(h:Wr Y->Z:=by
 intro kQ;refine qac (G:=tys) W tysOK mixed func164 Q9S Q9S Q9S ?_;exact kQ.o):Z:=h ⟨k⟩
theorem Q4Q(k:Y)(h:Wr Y->Z:=by
 intro kQ;refine qac (G:=tys) W tysOK mixed func163 Q9S Q9S Q9S ?_;exact kQ.o):Z:=h ⟨k⟩
theorem Q59(k:Y)(h:Wr Y->Z:=by
 intro kQ;refine Ba ?_;refine Bg Qb7 ?_;refine Ba ?_;refine Bi r 1 rfl hlt ?_;refine Ba ?_;exact kQ.o):Z:=h ⟨k⟩
theorem Q5g(k:Y)(h:Wr Y->Z:=by
 intro kQ;refine Bv ?_;refine Ba ?_;exact kQ.o):Z:=h ⟨k⟩
theorem Q5S(k:Y)(h:Wr Y->Z:=by intro kQ;(first|with_reducible (first|refine Bc Q9V ?_|refine Bc (qab _ _ _) ?_|refine Bc (qaa _ _) ?_|refine N.eq ?_|refine Bc rfl ?_|refine Bc ⟨by kernel_rfl,by kernel_rfl⟩ ?_)|fail);exact kQ.o):Z:=h ⟨k⟩
theorem Q5U(k:Y)(h:Wr Y->Z:=by intro kQ;(first|with_reducible (first|refine Bx ?_|refine Bz ?_)|fail);exact kQ.o):Z:=h ⟨k⟩
theorem Q65(k:Y)(h:Wr Y->Z:=by intro kQ;(first|refine Bb (cEMay _ _ _ _ _ _) ?_|refine Bb (jpb _ _ _) ?_|refine Bf (ndF he) ?_|refine Bf (ndF hn) ?_|refine Bf (ndF hd) ?_|fail);exact kQ.o):Z:=h ⟨k⟩
theorem Q6b(k:Y)(h:Wr Y->Z:=by intro kQ;(first|refine Bu _ (qu2 _ _ _ _ _ _) ?_|refine Bb (jig n _) ?_|refine Bb (qgx e (e.x-n.x) (e.y-n.y) _ _ _ w1 w2 he ew) ?_|refine Bb (qgx e (-(e.y-n.y)) (e.x-n.x) _ _ _ (by rw[w2];exact w3) w1 he ew2) ?_|refine Bb (qu6 ((e.x-n.x)*(e.x-n.x)+(e.y-n.y)*(e.y-n.y)) _ _ (max 0 (lo-n.rad)) (hi+n.rad) _ _ _ _ (by rw[w1,w2];exact w4) (by rw[w5]) w6 Q9R b1 b2 Q9R Q9R) ?_|with_reducible (first|refine N.max2 ?_|refine N.max3 ?_)|fail);exact kQ.o):Z:=h ⟨k⟩
theorem Q6i(k:Y)(h:Wr Y->Z:=by intro kQ;(first|refine Bi 1 0 Q9V Q9V ?_|refine Bi 2 0 Q9V Q9V ?_|fail);exact kQ.o):Z:=h ⟨k⟩
theorem Q6l(k:Y)(h:Wr Y->Z:=by intro kQ;(first|refine Bf (by rw[hc];rfl) ?_|refine Bg (by rw[hc];rfl) ?_|refine Bf Q9S ?_|refine Bg Q9S ?_|fail);exact kQ.o):Z:=h ⟨k⟩
theorem Q6t(k:Y)(h:Wr Y->Z:=by intro kQ;(first|refine Bb (jic (h'*m*m) (k*k) _ ((bh.mul bm).mul bm).top (bk.mul bk).top bl.top) ?_|refine Bb (jid (h'*m*m-k*k) _ bl.top) ?_|refine Bb (q0i (h'*m*m-k*k) _ Q9R (bl.le Q9V)) ?_|refine Bb (jrr (h'*far*far) _ hu0 bu) ?_|with_reducible (first|refine N.max2 ?_|refine N.min2 ?_)|fail);exact kQ.o):Z:=h ⟨k⟩
theorem Q6v(k:Y)(h:Wr Y->Z:=by intro kQ;(first|refine Bf (by rw[hf];rfl) ?_|refine Bg (by rw[hf];rfl) ?_|refine Bb (jmo (je7 e (jff n.x n.y (hi+n.rad))).1 n lo hi _ hfm hn hd) ?_|fail);exact kQ.o):Z:=h ⟨k⟩
theorem Q6w(k:Y)(h:Wr Y->Z:=by intro kQ;(first|refine Bb (qe2 _ _) ?_|refine Bf (ynT h1) ?_|refine Bf (ynT h2) ?_|refine Bf (ynT h3) ?_|refine Bg (nyT h1) ?_|refine Bg (nyT h2) ?_|refine Bg (nyT h3) ?_|fail);exact kQ.o):Z:=h ⟨k⟩
theorem Q6z(k:Y)(h:Wr Y->Z:=by intro kQ;(first|refine Bb (jig n _) ?_|refine Bb (qh9 n.x n.y (hi+n.rad) _ _ w6 hn2.1 hb) ?_|refine Bb (qi9 e (jff n.x n.y (hi+n.rad)) _ he hbm) ?_|fail);exact kQ.o):Z:=h ⟨k⟩
theorem Q6E(k:Y)(h:Wr Y->Z:=by intro kQ;(first|refine Bb (cOfz 1 _ Q9V Q9V) ?_|refine Bb (cOfz x _ Q9R Q9R) ?_|refine Bb (cOfz y _ Q9R Q9R) ?_|fail);exact kQ.o):Z:=h ⟨k⟩
theorem Q6H(k:Y)(h:Wr Y->Z:=by intro kQ;(first|refine Bu _ (q0o _ _ _ _ _ _ _ _ _ _ _ _) ?_|refine Bb (qzi _ 2 _ Q9S) ?_|refine Bb (jn0 _ 6 _ Q9S) ?_|refine Bb (qzm _ 10 _ Q9S) ?_|refine Bb (qzo _ 14 _ Q9S) ?_|fail);exact kQ.o):Z:=h ⟨k⟩
theorem Q6R(k:Y)(h:Wr Y->Z:=by intro kQ;(first|refine Bg Q9S ?_|refine Bi 0 0 rfl Q9V ?_|refine Bu _ (q6j _ _ _ _ _ _ _ _ _ _ _ _) ?_|refine Bb (quq 0 0 8 _ Q9V Q9V) ?_|refine Bb (qjt 3 3 5 1 4 4 _) ?_|refine Bb (qsw _ (qu8 3 3 5 1 4 4) 2 7 Q9V Q9V 0 0 64 0 64 Q9V Q9V 2 _ Q9S) ?_|fail);exact kQ.o):Z:=h ⟨k⟩
theorem Q6W(k:Y)(h:Wr Y->Z:=by intro kQ;(first|refine Bc qb0 ?_|refine Bc (qci rfl rfl) ?_|refine Bc (qfg λ_ _=>rfl) ?_|fail);exact kQ.o):Z:=h ⟨k⟩
theorem Q72(k:Y)(h:Wr Y->Z:=by intro kQ;(first|refine Bc (jky (qbz (show jmp silent (r+1)=max 1 silent from if_neg (Nat.succ_ne_zero _))) rfl) ?_|fail);exact kQ.o):Z:=h ⟨k⟩
theorem Q73(k:Y)(h:Wr Y->Z:=by intro kQ;(first|refine Bb (jig n _) ?_|refine Bb (qly n.x n.y (hi+n.rad) _ _ w6 hb) ?_|fail);exact kQ.o):Z:=h ⟨k⟩
theorem Q76(k:Y)(h:Wr Y->Z:=by intro kQ;(first|refine Bb (qm6 h' m m 0 _ _ Q9R Q9R Q9R Q9S) ?_|refine Bb (q0h k k 5 _ _ Q9R Q9R Q9S) ?_|fail);exact kQ.o):Z:=h ⟨k⟩
theorem Q7a(k:Y)(h:Wr Y->Z:=by intro kQ;(first|refine Bb (qfo now _) ?_|refine Bf Qb9 ?_|refine Bb (qsq s.bn s.bl 3 _ Q9S) ?_|fail);exact kQ.o):Z:=h ⟨k⟩
theorem Q7d(k:Y)(h:Wr Y->Z:=by intro kQ;(first|refine Bb (jo9 x _ bx) ?_|refine Bb (cMulz x y _ bx.b16 bY.b16 bp.top) ?_|fail);exact kQ.o):Z:=h ⟨k⟩
theorem Q7f(k:Y)(h:Wr Y->Z:=by intro kQ;(first|refine Bb (qln s.te s.tx now 4 _ Q9S ⟨hd,by omega⟩ Q9R) ?_|refine Bb (qi2 _ _ _ _ _ _ _ 1 _ Q9S) ?_|refine Bb (jrd _ _ _ _ _ _ _ 1 _ Q9S) ?_|refine Bg hv ?_|refine Bf hv ?_|fail);exact kQ.o):Z:=h ⟨k⟩
theorem Q7A(k:Y)(h:Wr Y->Z:=by intro kQ;(first|refine Bb (jmo e n lo hi _ he hn hd) ?_|fail);exact kQ.o):Z:=h ⟨k⟩
theorem Q7D(k:Y)(h:Wr Y->Z:=by intro kQ;(first|refine Bf (by rw[hc];rfl) ?_|refine Bg (by rw[hc];rfl) ?_|refine Bf (by rw[hk];rfl) ?_|refine Bg (by rw[hk];rfl) ?_|fail);exact kQ.o):Z:=h ⟨k⟩
theorem Q7U(k:Y)(h:Wr Y->Z:=by intro kQ;(first|refine Bf (by rw[hw,xm];omega) ?_|fail);exact kQ.o):Z:=h ⟨k⟩
theorem Q7W(k:Y)(h:Wr Y->Z:=by intro kQ;(first|refine Bb (qch boot _) ?_|refine Bb (q0n C hC _) ?_|fail);exact kQ.o):Z:=h ⟨k⟩
theorem Q88(h:Z:=by first|exact jky (qbz (by rw[je5 ((r:Int)+1) Q9R Q9R];rfl)) rfl|fail):Z:=h
theorem Q8u(h:Z:=by first|exact λρ ρ' ha=>by have:=ha 6 ⟨_,rfl⟩;simp[den,den2,den1,den0,jft,this]|fail):Z:=h
theorem Q8y(h:Z:=by first|exact ⟨rfl,rfl,rfl,λw=>by go_simp;by_cases h1:a=p<;>by_cases h2:b=q<;>by_cases h3:c=r<;>by_cases h4:d=s<;>by_cases h5:e=t<;>simp[h1,h2,h3,h4,h5]⟩|fail):Z:=h
theorem Q8D(h:Z:=by first|exact .one (.slice Q9S)|fail):Z:=h
theorem Q9f(h:Z:=by first|exact ⟨.plain rfl,.plain rfl,.plain rfl,.plain rfl,xb⟩|fail):Z:=h
theorem Q9i(h:Z:=by first|exact ⟨⟨.inl rfl,.inr ⟨_,rfl,rfl⟩,.inl rfl,.inr ⟨_,rfl,rfl⟩,.inl rfl,.inl rfl,xb⟩,xb⟩|fail):Z:=h
theorem Q9s(h:Z:=by first|exact qdr (by show(evL T.E (evP now silent) (r+1)).length=_;rw[e1,xv];rfl) Q9S|fail):Z:=h
theorem Q9L(h:Z:=by first|exact λρ ρ' ha=>by have:=ha 18 ⟨_,rfl⟩;simp[den,den2,den1,den0,jft,this]|fail):Z:=h
theorem Qa9(h:Z:=by show T.E.length-(r+1)<T.E.length-r;omega):Z:=h
theorem Qab(h:Z:=by show ChunkReLe _ (mapC entV (evE T.E (evP now silent) (r+1))) _;rw[e2];exact qb0):Z:=h
theorem Qav(h:Z:=by rw[if_neg Q9R];rfl):Z:=h
theorem Qb8(h:Z:=by rw[xg hbo];rfl):Z:=h
theorem Qb9(h:Z:=by rw[xg ht];rfl):Z:=h
theorem Qbg(h:Z:=by show(_+1)*8<=_;omega):Z:=h
end
end Go.Proofs

namespace Go.Proofs.YtfkngpmgcimdbaaGreat
open Go Go.RowKit Sx
variable{c:Nat}
theorem q6d{o:Oper}{st:St}{x y:Operand}{t:TypeId}{k s l:Nat}{ck:Chunk}{K:Value->Mz->Prop}(ho:o.op=.call ⟨.builtin .append,#[x,y],#[t,t]⟩)(hx:EvTo x st (.slice (some ⟨k,0,some s⟩) l c))(hck:st.h[k]?=some (some ck))(hy:EvTo y st (.slice none 0 0))(hc:l<=c)
  (ht:je4 tys t λ_ d=>match d with|.slice e=>je4 tys e λ_ _=>True|_=>False) (hK:K (.slice (some ⟨k,0,some s⟩) l c) []):N (EffAll prog o st K):=N.mk λX ρ a w R next Q hn=>by
 obtain⟨ti,d,_,h1,hd⟩:=qao tysOK ht
 split at hd
 .obtain⟨ei,d2,h2,_,_⟩:=qao tysOK hd;have hx':a.eval x=.slice (some ⟨(ρ k).1,(ρ k).2+0,none⟩) l c:=(hx.den R).self.symm;have hy':a.eval y=.slice none 0 0:=(hy.den R).self.symm;have hrun:(Builtin.append_ #[t,t] o.type #[.slice (some ⟨(ρ k).1,(ρ k).2+0,none⟩) l c,.slice none 0 0]).run prog w=.ok (.slice (some ⟨(ρ k).1,(ρ k).2+0,none⟩) l c) w:=by
   simp[Builtin.append_,run_underlying h1,sizeOf,typeInfo,h2,Builtin.lenOf,run_firstCells_none,storeCells,hc]
  have hrun2:=qcy (P:=prog) (o:=o) (x:=x) (y:=y) (t:=t) (a:=a) ho QaV;unfold Oper.wp;rw[hrun2];refine hn _ _ ρ _ _ hK ⟨AgreeOn.refl _ _,R.heap,λr hr=>?_⟩;have e:=hr k ⟨ck,hck⟩;simp[den,den2,den1,den0,jft,e]
 .exact hd.elim
abbrev jlf(o:Bool)(i j:Nat):Chunk:=⟨o,1,[(0,1,.func (.func 220) #[] (pt2 i j))]⟩
abbrev jqt(i j:Nat):Value:=.func (.func 220) #[] (pt2 i j)
theorem cWC(e:El)(f:Strip)(w:Int)(hw:0<=w/\w<=34)(he:e.may)(hf:f.may)(i j:Nat)(hij:i≠j)(o1 o2:Bool)(h:Hp)(hi:h[i]?=some (some (elC o1 e)))(hj:h[j]?=some (some (stC o2 f))):
  qae prog 220 [xc w,xd i,xd j] h (.tuple #[elE (je0 e f w).1,xc (je0 e f w).2]) [] [i,j]:=by
 refine qak (G:=tys) [⟨i,_,elC false e,⟨false,0,[]⟩⟩,⟨j,_,stC false f,⟨false,0,[]⟩⟩] [] [xc w,xd 0,xd 1] tysOK mixed func220 Q9S (call220) ⟨hi,hj,xb⟩ ⟨el_re _,st_re _,xb⟩ Qas xb Q9c ?_
 repeat' (first|(refine Ba ?_;first|refine Q5P ?_|refine Bb (jo5 e f w _ hw he hf) ?_|refine Q6o ?_|refine Bc xb ?_|exact Be|fail)|refine qah Q9S ?_)
theorem cQC(e:El)(f:Strip)(w:Int)(b:Bool)(hw:0<=w/\w<=34)(he:e.may)(hf:f.may)(k m i j:Nat)(hne:[k,m,i,j].Nodup)(o1 o2 o3:Bool)(h:Hp)(hk:h[k]?=some (some (jlf o3 i j)))(hm:h[m]?=some (some (bC b)))(hi:h[i]?=some (some (elC o1 e)))(hj:h[j]?=some (some (stC o2 f))):
  qae prog 190 [xc w,xd k,xd m] h (.tuple #[xc (jfq (je0 e f) w).n,.bool (jfq (je0 e f) w).ok]) [(m,bC (b||decide ((je0 e f w).2=3)))] [k,i,j]:=by
 simp only[xL,xj,xK,or_false,not_or,xI,yN,and_true] at hne
 refine qak (G:=tys) [⟨m,_,bC b,bC (b||decide ((je0 e f w).2=3))⟩,⟨k,_,jlf false 2 3,⟨false,0,[]⟩⟩,⟨i,_,elC false e,⟨false,0,[]⟩⟩,⟨j,_,stC false f,⟨false,0,[]⟩⟩] [] [xc w,xd 1,xd 0] tysOK mixed func190 Q9S (call190) ⟨hm,hk,hi,hj,xb⟩ ⟨b_re (nlr _) _,Q8j,el_re _,st_re _,xb⟩ QaK xb Q9c ?_
 cases b
 all_goals
  repeat' (first|(refine Ba ?_;first|refine Q5P ?_|refine Bb (cWC e f w hw he hf 2 3 Q9V _ _ _ Q9S Q9S) ?_|refine Bb (qe0 _ _ _ _ _ _) ?_|refine Bg Q9S ?_|refine Q6o ?_|refine Q6y ?_|exact Be|fail)|refine qah Q9S ?_)
theorem jlg(e:El)(f:Strip)(w:Int)(s:GS)(hw:0<=w/\w<=34)(he:e.may)(hf:f.may)(a k m i j:Nat)(hne:[a,k,m,i,j].Nodup)(o1 o2 o3:Bool)(h:Hp)(ha:h[a]?=some (some (seC true k m s)))(hk:h[k]?=some (some (jlf o3 i j)))(hm:h[m]?=some (some (bC s.emp)))(hi:h[i]?=some (some (elC o1 e)))(hj:h[j]?=some (some (stC o2 f))):
  qae prog 207 [xd a,xc w] h (.agg #[xc (jfq (je0 e f) w).n,.bool (jfq (je0 e f) w).ok]) [(a,seC true k m (s.ask (je0 e f) w)),(m,bC (s.ask (je0 e f) w).emp)] [k,i,j]:=by
 simp only[xL,xj,xK,or_false,not_or,xI,yN,and_true] at hne
 have hemp:(s.ask (je0 e f) w).emp=(s.emp||decide ((je0 e f w).2=3)):=by unfold GS.ask;split<;>rfl
 rcases qdb (jfq (je0 e f) w).ok with h1|h1
 .skip;have hs':s.ask (je0 e f) w=⟨s.w,s.best,s.emp||decide ((je0 e f w).2=3)⟩:=by unfold GS.ask;exact if_neg (by simp[h1])
  exact Q07
 .rcases qdb s.best.ok with h2|h2
  .skip;have hs':s.ask (je0 e f) w=⟨w,jfq (je0 e f) w,s.emp||decide ((je0 e f w).2=3)⟩:=by unfold GS.ask;exact if_pos (by simp[h1,h2])
   exact Q07
  .by_cases h3:(jfq (je0 e f) w).n<s.best.n
   .skip;have hs':s.ask (je0 e f) w=⟨w,jfq (je0 e f) w,s.emp||decide ((je0 e f w).2=3)⟩:=by unfold GS.ask;exact if_pos (by simp[h1,h2,h3])
    exact Q07
   .by_cases h4:(jfq (je0 e f) w).n=s.best.n
    .by_cases h5:w<s.w
     .skip;have hs':s.ask (je0 e f) w=⟨w,jfq (je0 e f) w,s.emp||decide ((je0 e f w).2=3)⟩:=by unfold GS.ask;exact if_pos (by simp[h1,h2,h4,h5])
      exact Q07
     .skip;have hs':s.ask (je0 e f) w=⟨s.w,s.best,s.emp||decide ((je0 e f w).2=3)⟩:=by unfold GS.ask;exact if_neg (by simp[h1,h2,h3,h5])
      exact Q07
    .skip;have hs':s.ask (je0 e f) w=⟨s.w,s.best,s.emp||decide ((je0 e f w).2=3)⟩:=by unfold GS.ask;exact if_neg (by simp[h1,h2,h3,h4])
     exact Q07
theorem qra(e:El)(f:Strip)(w w':Int)(s:GS)(hww:w'=w)(hw:0<=w/\w<=34)(he:e.may)(hf:f.may)(a k m i j:Nat)(hne:[a,k,m,i,j].Nodup)(o1 o2 o3:Bool)(h:Hp)(ha:h[a]?=some (some (seC true k m s)))(hk:h[k]?=some (some (jlf o3 i j)))(hm:h[m]?=some (some (bC s.emp)))(hi:h[i]?=some (some (elC o1 e)))(hj:h[j]?=some (some (stC o2 f))):
  qae prog 207 [xd a,xc w'] h (.agg #[xc (jfq (je0 e f) w).n,.bool (jfq (je0 e f) w).ok]) [(a,seC true k m (s.ask (je0 e f) w)),(m,bC (s.ask (je0 e f) w).emp)] [k,i,j]:=by
 subst hww
 exact jlg e f w' s hw he hf a k m i j hne o1 o2 o3 h ha hk hm hi hj
theorem jc3(e:El)(f:Strip)(b:Bool)(he:e.may)(hf:f.may)(k m i j:Nat)(hne:[k,m,i,j].Nodup)(o1 o2 o3:Bool)(h:Hp)(hk:h[k]?=some (some (jlf o3 i j)))(hm:h[m]?=some (some (bC b)))(hi:h[i]?=some (some (elC o1 e)))(hj:h[j]?=some (some (stC o2 f))):
  qae prog 189 [.func (.func 190) #[] (pt2 k m)] h (.tuple #[xc (GL.go (je0 e f) b 6).s.w,xc (GL.go (je0 e f) b 6).s.best.n,.bool (GL.go (je0 e f) b 6).s.best.ok]) [(m,bC (GL.go (je0 e f) b 6).s.emp)] [k,i,j]:=by
 simp only[xL,xj,xK,or_false,not_or,xI,yN,and_true] at hne
 refine qak (G:=tys) [⟨m,_,bC b,bC (GL.go (je0 e f) b 6).s.emp⟩,⟨k,_,jlf false 2 3,⟨false,0,[]⟩⟩,⟨i,_,elC false e,⟨false,0,[]⟩⟩,⟨j,_,stC false f,⟨false,0,[]⟩⟩] [] [.func (.func 190) #[] (pt2 1 0)] tysOK mixed func189 Q9S (call189) ⟨hm,hk,hi,hj,xb⟩ ⟨b_re (nlr _) _,Q8j,el_re _,st_re _,xb⟩ QaK xb ⟨.func xb Q8r,xb⟩ ?_
 repeat' (first|(refine Ba ?_;first|refine Q5P ?_|refine Bb (jlg e f 13 ⟨0,⟨0,false⟩,b⟩ Q9V he hf 4 1 0 2 3 Q9V _ _ _ _ Q9S Q9S Q9S Q9S Q9S) ?_|refine Bb (jlg e f 21 (GS.ask (je0 e f) ⟨0,⟨0,false⟩,b⟩ 13) Q9V he hf 4 1 0 2 3 Q9V _ _ _ _ Q9S Q9S Q9S Q9S Q9S) ?_|refine Q66 ?_|refine Bb (jlc (jfq (je0 e f) 13) (jfq (je0 e f) 21) _) ?_|refine Q6c ?_|refine Bj (λhb=>?_) (λhb=>?_)|refine Bb (qra e f 8 _ (GS.first (je0 e f) b) Q9V Q9V he hf 4 1 0 2 3 Q9V _ _ _ _ Q9S Q9S Q9S Q9S Q9S) ?_)|refine qah Q9S ?_)
 .refine Ba ?_;refine N.jumps tysOK mixed (α:=Nat) (λl n=>(l=0/\n<=6)\/(l=1/\n<6/\(GL.go (je0 e f) b n).fx.most (GL.go (je0 e f) b n).fy=false)) (λl n=>if l=0 then 2*(6-n)+1 else 2*(6-n)) (λ_ n=>[(5,xd 4),(6,xc (GL.go (je0 e f) b n).a),(7,xc (GL.go (je0 e f) b n).b),(8,xc (GL.go (je0 e f) b n).x),(9,xc (GL.go (je0 e f) b n).y),(10,xd 13),(11,xd 14)]) (λ_ n=>[(0,bC (GL.go (je0 e f) b n).s.emp),(4,seC true 1 0 (GL.go (je0 e f) b n).s),(13,gvC (GL.go (je0 e f) b n).fx),(14,gvC (GL.go (je0 e f) b n).fy)]) 0 Q9A ?_ ?_
  .exact Q1T
  exact Q09
 .refine Ba ?_;refine N.jumps tysOK mixed (α:=Nat) (λl n=>(l=0/\n<=6)\/(l=1/\n<6/\(GL.go (je0 e f) b n).fx.most (GL.go (je0 e f) b n).fy=false)) (λl n=>if l=0 then 2*(6-n)+1 else 2*(6-n)) (λ_ n=>[(5,xd 4),(6,xc (GL.go (je0 e f) b n).a),(7,xc (GL.go (je0 e f) b n).b),(8,xc (GL.go (je0 e f) b n).x),(9,xc (GL.go (je0 e f) b n).y),(10,xd 13),(11,xd 14)]) (λ_ n=>[(0,bC (GL.go (je0 e f) b n).s.emp),(4,seC true 1 0 (GL.go (je0 e f) b n).s),(13,gvC (GL.go (je0 e f) b n).fx),(14,gvC (GL.go (je0 e f) b n).fy)]) 1 (.inl ⟨rfl,by decide⟩) ?_ ?_
  .rw[show GL.go (je0 e f) b 1=(GL.start (je0 e f) b).left (je0 e f) from if_pos Qb6];exact Q1T
  exact Q09
theorem q85(e:El)(f:Strip)(he:e.may)(hf:f.may)(i j:Nat)(hne:i≠j)(o1 o2:Bool)(h:Hp)(hi:h[i]?=some (some (elC o1 e)))(hj:h[j]?=some (some (stC o2 f)))  :
  qae prog 165 [elE e,jqt i j,.slice none 0 0] h (.tuple #[elE (qbq e (je0 e f) []).1,xc (qbq e (je0 e f) []).2]) [] [i,j]:=by
 refine qak (G:=tys) [⟨i,_,elC false e,⟨false,0,[]⟩⟩,⟨j,_,stC false f,⟨false,0,[]⟩⟩] [] [elE e,jqt 0 1,.slice none 0 0] tysOK mixed func165 Q9S (call165) ⟨hi,hj,xb⟩ ⟨el_re _,st_re _,xb⟩ (by simp[Apart, *]) xb ⟨.plain rfl,.func xb Q8r,.plain rfl,xb⟩ ?_
 repeat' (first|(refine Ba ?_;first|refine Q5P ?_|refine Bb (jc3 e f false he hf 3 5 0 1 Q9V _ _ _ _ Q9S Q9S Q9S Q9S) ?_)|refine qah Q9S ?_)
 rcases qdb (GL.go (je0 e f) false 6).s.emp with hem|hem
 .rcases qdb (GL.go (je0 e f) false 6).s.best.ok with hok|hok
  .have hF:qbq e (je0 e f) []=(([e]++[]).foldl lesser e,0):=by unfold qbq;rw[hem,hok];rfl
   rw[hF];repeat' (first|(refine Ba ?_;first|refine Q5P ?_|refine Bf hem ?_|refine Bf hok ?_)|refine qah Q9S ?_)
   refine Ba ?_;refine q6d (ck:=elC true e) rfl rfl rfl rfl Q9V xb ?_;have le1:ChunkLe (rwE 1 [e]) (elC true e):=jc0 e;refine Q01 ?_;refine Bq (α:=Nat) (λk=>k<=1) (λk=>1-k) (λk=>[(44,xc (k:Int))]) (λk=>[(6,rwE 1 [e]),(7,elC true (([e].take k).foldl lesser e))]) 0 [(0,0),(1,1),(2,2),(3,3),(4,4),(5,5),(6,6),(7,7)] (xi _) ?_ ?_
   .exact Q1h
   intro k hk;by_cases hlt:k<1
   .have st:=qgw [e] e k hlt;generalize hO:([e].take k).foldl lesser e=O;by_cases hless:([e].getD k El.o).tr<O.tr
    .have hls:lesser O ([e].getD k El.o)=[e].getD k El.o:=if_pos hless;refine Q0z ?_;exact Q4a
    .have hls:lesser O ([e].getD k El.o)=O:=if_neg hless;refine Q0w ?_;exact Q4a
   .obtain rfl:k=1:=by omega
    rw[show([e].take 1).foldl lesser e=[e].foldl lesser e from qi8 [e] e];exact Q0Q
  .have hF:qbq e (je0 e f) []=((([e]++[(je0 e f (GL.go (je0 e f) false 6).s.w).1])++[]).foldl lesser e,0):=by unfold qbq;rw[hem,hok];rfl
   rw[hF];repeat' (first|(refine Ba ?_;first|refine Q5P ?_|refine Bf hem ?_|refine Bg hok ?_|refine Bb (cWC e f (GL.go (je0 e f) false 6).s.w (jqr _ _ 6 Q9V) he hf 0 1 Q9V _ _ _ Q9S Q9S) ?_)|refine qah Q9S ?_)
   refine Ba ?_;generalize hX:(je0 e f (GL.go (je0 e f) false 6).s.w).1=X at *;refine qu4 (elE X) (jjy X rfl) rfl (by show 1*5<=5;decide) Q9V Q9V (rwE 1 [e]) (λh=>absurd h Q9V) (λh=>absurd h Q9V) (λ_ cap hcap=>?_);have le1:ChunkLe (rwE cap ([e]++[X])) (grown (elC true e) 1 1 5 (elE X) (elE El.o) cap):=jjw rfl rfl (qu3 e) hcap;refine Q01 ?_;refine q6d rfl rfl rfl rfl hcap xb ?_;refine Q01 ?_;refine Bq (α:=Nat) (λk=>k<=2) (λk=>2-k) (λk=>[(44,xc (k:Int))]) (λk=>[(13,rwE cap ([e]++[X])),(14,elC true ((([e]++[X]).take k).foldl lesser e))]) 0 [(0,0),(1,1),(2,2),(3,3),(4,4),(5,5),(6,6),(11,11),(12,12),(13,13),(14,14)] (xi _) ?_ ?_
   .exact Q1h
   intro k hk;by_cases hlt:k<2
   .have st:=qgw ([e]++[X]) e k hlt;generalize hO:(([e]++[X]).take k).foldl lesser e=O;by_cases hless:(([e]++[X]).getD k El.o).tr<O.tr
    .have hls:lesser O (([e]++[X]).getD k El.o)=([e]++[X]).getD k El.o:=if_pos hless;refine Q0z ?_;exact Q3K
    .have hls:lesser O (([e]++[X]).getD k El.o)=O:=if_neg hless;refine Q0w ?_;exact Q3K
   .obtain rfl:k=2:=by omega
    rw[show(([e]++[X]).take 2).foldl lesser e=([e]++[X]).foldl lesser e from qi8 ([e]++[X]) e];exact Q0Q
 .have hF:qbq e (je0 e f) []=(El.o,3):=by unfold qbq;rw[hem];rfl
  exact Q2o
theorem jc4(e:El)(f:Strip)(he:e.may)(hf:f.may)(W:World):xa 200 #[elE e,stV f] W (.tuple #[elE (jgk e f).1,xc (jgk e f).2]):=by
 rw[show jgk e f=qbq e (je0 e f) [] from if_pos ⟨he,hf⟩];refine qac (G:=tys) W tysOK mixed func200 Q9S Q9S Q9S ?_;repeat' (first|(refine Ba ?_;first|refine Q5P ?_|refine Q6A ?_|refine Bb (qlv f _) ?_|refine Bf (jmm he) ?_|refine Bf (jmm hf) ?_|refine Bb (q85 e f he hf 0 1 Q9V _ _ _ Q9S Q9S) ?_|refine Q6o ?_|refine Bc xb ?_|exact Be|fail)|refine qah Q9S ?_)
 all_goals rfl
theorem jlh(e:El)(f:Strip)(h:Hp)(he:e.may)(hf:f.may):qae prog 200 [elE e,stV f] h (.tuple #[elE (jgk e f).1,xc (jgk e f).2]) [] []:=
 qai rfl rfl (call200 _) (jc4 e f he hf)
theorem q6e(e:El)(f:Strip)(r:El)(c:Int)(h:Hp)(hr:jgk e f=(r,c))(he:e.may)(hf:f.may):qae prog 200 [elE e,stV f] h (.tuple #[elE r,xc c]) [] []:=by
 have:=jlh e f h he hf;rw[hr] at this;exact this
theorem q86(e:El)(f:Strip)(he:e.may)(hf:¬ f.may)(W:World):xa 200 #[elE e,stV f] W (.tuple #[elE El.o,xc 1]):=by
 refine qac (G:=tys) W tysOK mixed func200 Q9S Q9S Q9S ?_;repeat' (first|(refine Ba ?_;first|refine Q5P ?_|refine Q6A ?_|refine Bb (qlv f _) ?_|refine Bf (jmm he) ?_|refine Bg (by rw[xf hf];rfl) ?_|refine Q6o ?_|refine Bc xb ?_|exact Be|fail)|refine qah Q9S ?_)
 all_goals rfl
theorem q6f(e:El)(f:Strip)(h:Hp)(he:e.may)(hf:¬ f.may):qae prog 200 [elE e,stV f] h (.tuple #[elE El.o,xc 1]) [] []:=
 qai rfl rfl (call200 _) (q86 e f he hf)
theorem jo9(x:Int)(h:Hp)(bx:Bd x 50):qae prog 132 [wz 1,wz x] h (wz x) [] []:=by
 have b1:Bd (1:Int) 0:=Bd.of (n:=1) Q9V;have:=cMulz 1 x h b1.b16 bx.b16 (b1.mul bx).top;rwa[Int.one_mul] at this
theorem q0h(x y:Int)(i:Nat)(o:Bool)(h:Hp)(hx:x.natAbs<=1125899906842624)(hy:y.natAbs<=1125899906842624) 
  (hi:h[i]?=some (some ⟨o,2,[(0,2,.agg #[xc x,xc y])]⟩)) :
  qae prog 239 [.slice (some ⟨i,0,some 0⟩) 2 2] h (wz (x*y)) [] [i]:=by
 have bx:Bd x 50:=Bd.of hx
 have bY:Bd y 50:=Bd.of hy
 have b1:Bd (1:Int) 0:=Bd.of (n:=1) Q9V
 have e1:1*x=x:=Int.one_mul x
 have bp:Bd (x*y) 100:=bx.mul bY
 refine qak (G:=tys) [⟨i,_,⟨false,2,[(0,2,.agg #[xc x,xc y])]⟩,⟨false,0,[]⟩⟩] [] [.slice (some ⟨0,0,some 0⟩) 2 2] tysOK mixed func239 Q9S (call239) ⟨hi,xb⟩ ⟨qim (qaz rfl rfl),xb⟩ Q9X xb ⟨.slice rfl,xb⟩ ?_
 repeat' (first|(refine Ba ?_;first|refine Q5P ?_|refine Q6E ?_|refine Q7d ?_)|refine qah Q9S ?_)
 refine Ba ?_
 refine Bp 3 ?_
 repeat' (first|(refine Ba ?_;first|refine Q5P ?_|refine Q6E ?_|refine Q7d ?_|refine Q71 ?_|refine Bi 1 0 Q9V Q9V ?_|refine Q6c ?_|refine Q66 ?_|refine Q7z ?_|exact Be|fail)|refine qah Q9S ?_)
theorem qm6(x y v:Int)(i:Nat)(o:Bool)(h:Hp)(hx:x.natAbs<=1125899906842624)(hy:y.natAbs<=1125899906842624)(hv:v.natAbs<=1125899906842624) 
  (hi:h[i]?=some (some ⟨o,3,[(0,3,.agg #[xc x,xc y,xc v])]⟩)) :
  qae prog 239 [.slice (some ⟨i,0,some 0⟩) 3 3] h (wz (x*y*v)) [] [i]:=by
 have bx:Bd x 50:=Bd.of hx
 have bY:Bd y 50:=Bd.of hy
 have bv:Bd v 50:=Bd.of hv
 have b1:Bd (1:Int) 0:=Bd.of (n:=1) Q9V
 have e1:1*x=x:=Int.one_mul x
 have bp:Bd (x*y) 100:=bx.mul bY
 refine qak (G:=tys) [⟨i,_,⟨false,3,[(0,3,.agg #[xc x,xc y,xc v])]⟩,⟨false,0,[]⟩⟩] [] [.slice (some ⟨0,0,some 0⟩) 3 3] tysOK mixed func239 Q9S (call239) ⟨hi,xb⟩ ⟨qim (qaz rfl rfl),xb⟩ Q9X xb ⟨.slice rfl,xb⟩ ?_
 repeat' (first|(refine Ba ?_;first|refine Q5P ?_|refine Q6E ?_|refine Bb (cOfz v _ Q9R Q9R) ?_|refine Q7d ?_|refine Bb (cMulz (x*y) v _ bp.b16 bv.b16 (bp.mul bv).top) ?_)|refine qah Q9S ?_)
 refine Ba ?_
 refine Bp 4 ?_
 repeat' (first|(refine Ba ?_;first|refine Q5P ?_|refine Q6E ?_|refine Bb (cOfz v _ Q9R Q9R) ?_|refine Q7d ?_|refine Bb (cMulz (x*y) v _ bp.b16 bv.b16 (bp.mul bv).top) ?_|refine Q71 ?_|refine Q6i ?_|refine Q6c ?_|refine Q66 ?_|refine Q7z ?_|exact Be|fail)|refine qah Q9S ?_)
variable{n:Nat}
theorem jmn(h:n<=pw 120):n<2^125:=xQ h (yV Q9V Q9V)
theorem jc5(h:n<=pw 120):isq n<=1152921504606846976:=by
 have:=qi0 (v:=n) (n:=1152921504606846977) (by
  refine xQ h ?_;show 2^120<1152921504606846977*1152921504606846977;decide)
 omega
theorem q87(n:Nat)(hn:n<=pw 120)(w:World):xa 240 #[wz (n:Int)] w (.tuple #[xc (isq n:Nat),xc 0]):=by
 have h1:=jc5 hn;have h2:=qdq (z:=(isq n:Nat)) Q9R;have hb:Bd ((isq n:Nat):Int) 60:=Bd.of (n:=1152921504606846976) Q9R;refine qac (G:=tys) w tysOK mixed func240 Q9S Qae Q9S ?_;repeat' (first|(refine Ba ?_;first|refine Q5P ?_|refine Bc (qab _ _ _) ?_|refine Bb (q55 n _ (xE (jmn hn) (yV Q9V Q9V))) ?_|refine Bb (qh7 _ _ hb.top) ?_)|refine qah Q9S ?_)
 rw[h2.1,h2.2]
theorem q0i(z:Int)(h:Hp)(h0:0<=z)(hz:Bd z 120):qae prog 240 [wz z] h (.tuple #[xc (isq z.toNat:Nat),xc 0]) [] []:=by
 obtain⟨n,rfl⟩:=yX h0;exact qai Qae rfl (call240 _) (q87 n hz)
theorem jrr(z:Int)(h:Hp)(h0:0<=z)(hz:Bd z 120):qae prog 238 [wz z] h (.tuple #[xc (usq z.toNat:Nat),xc 0]) [] []:=by
 obtain⟨n,rfl⟩:=yX h0;exact qzf n h (jmn hz)
theorem jc6(h' w k m far:Int)(hh:0<=h'/\h'<=281474976710656)(hw:0<=w/\w<=281474976710656)(hk:0<=k/\k<=281474976710656)(hm:0<=m/\m<=33554432)(hf:0<=far/\far<=33554432)(W:World):xa 218 #[xc h',xc w,xc k,xc m,xc far] W (.tuple #[xc (ji0 h' w k m),xc (jhv h' w far),xc 0]):=by
 have bh:Bd h' 48:=Bd.of (n:=281474976710656) Q9R;have bk:Bd k 48:=Bd.of (n:=281474976710656) Q9R;have bm:Bd m 25:=Bd.of (n:=33554432) Q9R;have bf:Bd far 25:=Bd.of (n:=33554432) Q9R;have bl:Bd (h'*m*m-k*k) 99:=Bd.sub 98 ((bh.mul bm).mul bm) (bk.mul bk);have bu:Bd (h'*far*far) 120:=((bh.mul bf).mul bf).le Q9V;have hu0:0<=h'*far*far:=yi (yi hh.1 hf.1) hf.1;have w1:IntKind.i64.wrap (h'-w)=h'-w:=je5 _ Q9R Q9R;have w2:IntKind.i64.wrap (h'+w)=h'+w:=je5 _ Q9R Q9R;unfold ji0 jhv;refine qac (G:=tys) W tysOK mixed func218 Q9S Q9S Q9S ?_;by_cases h1:0<h'-w
 .rw[if_pos h1];by_cases h2:0<h'*m*m-k*k
  .rw[if_pos h2];repeat' (first|(refine Ba ?_;first|refine Q5P ?_|refine Q76 ?_|refine Bb (qm6 h' far far 15 _ _ Q9R Q9R Q9R Q9S) ?_|refine Q6t ?_|refine Q66 ?_|refine Bg (by rw[xh,w1];exact h1) ?_|refine Bg (by rw[xh];exact(qoh _).2 h2) ?_)|refine qah Q9S ?_)
   rw[w1,w2]
  .rw[if_neg h2];repeat' (first|(refine Ba ?_;first|refine Q5P ?_|refine Q76 ?_|refine Bb (qm6 h' far far 15 _ _ Q9R Q9R Q9R Q9S) ?_|refine Q6t ?_|refine Q66 ?_|refine Bg (by rw[xh,w1];exact h1) ?_|refine Bf (by rw[xm];exact λh=>h2 ((qoh _).1 h)) ?_)|refine qah Q9S ?_)
   rw[w1,w2]
 .rw[if_neg h1];repeat' (first|(refine Ba ?_;first|refine Q5P ?_|refine Q76 ?_|refine Bb (qm6 h' far far 0 _ _ Q9R Q9R Q9R Q9S) ?_|refine Q6t ?_|refine Q66 ?_|refine Bf (by rw[xm,w1];exact h1) ?_)|refine qah Q9S ?_)
  rw[w1,w2]
theorem jpa(h' w k m far:Int)(h:Hp)(hh:0<=h'/\h'<=281474976710656)(hw:0<=w/\w<=281474976710656)(hk:0<=k/\k<=281474976710656)(hm:0<=m/\m<=33554432)(hf:0<=far/\far<=33554432):qae prog 218 [xc h',xc w,xc k,xc m,xc far] h (.tuple #[xc (ji0 h' w k m),xc (jhv h' w far),xc 0]) [] []:=
 qai rfl rfl (call218 _) (jc6 h' w k m far hh hw hk hm hf)
theorem jc7(lo hi:Int)(W:World):xa 197 #[xc lo,xc hi] W (.bool (decide (jhr lo hi))):=by
 refine qac (G:=tys) W tysOK mixed func197 Q9S Q9S Q9S ?_;repeat' (refine Ba ?_;first|refine Q5P ?_|with_reducible refine Bj (λhb=>?_) (λhb=>?_)|fail)
 all_goals
  refine jf7 ?_
  unfold jhr
  simp only[xh,xm,xG,false_iff,true_iff,iff_true,iff_false,reduceCtorEq,yj,xI,yk,xZ] at *
  omega
theorem jpb(lo hi:Int)(h:Hp):qae prog 197 [xc lo,xc hi] h (.bool (decide (jhr lo hi))) [] []:=
 qai rfl rfl (call197 _) (jc7 lo hi)
theorem qu5{e:El}(he:e.may){x y:Int}(hx : -8388608<=x/\x<=8388608)(hy : -8388608<=y/\y<=8388608):0<=qlw e x y/\qlw e x y<=281474976710656:=by
 unfold El.may mayP at he;have bx:x*x<=70368744177664:=by
  have:=yi (by omega:0<=8388608-x) (by omega:0<=8388608+x);have e1:(8388608-x)*(8388608+x)=70368744177664-x*x:=by grind
  omega
 have by':y*y<=70368744177664:=by
  have:=yi (by omega:0<=8388608-y) (by omega:0<=8388608+y);have e1:(8388608-y)*(8388608+y)=70368744177664-y*y:=by grind
  omega
 have bxy : -70368744177664<=x*y/\x*y<=70368744177664:=by
  have h1:=jgz (x+y);have h2:=jgz (x-y);have e1:(x+y)*(x+y)=x*x+2*(x*y)+y*y:=by grind
  have e2:(x-y)*(x-y)=x*x-2*(x*y)+y*y:=by grind
  omega
 have q1:e.a*(x*x)<=70368744177664*70368744177664:=yQ Q9R bx (jgz x) Q9R;have q2:e.d*(y*y)<=70368744177664*70368744177664:=yQ Q9R by' (jgz y) Q9R;have q3:e.b*(x*y)<=70368744177664*70368744177664:=by
  have h1:=y5 e.b (x*y);have h2:e.b.natAbs*(x*y).natAbs<=70368744177664*70368744177664:=yz Q9R Q9R;omega
 unfold qlw;refine⟨by omega,?_⟩;have hq:(jf9 e.a e.b e.d x y).toNat<=281474976710656*281474976710656:=by unfold jf9;omega
 have:=qze hq;omega
theorem qu6(h' w k m far h1 m1 f1:Int)(h:Hp)(e1:h1=h')(e2:m1=m)(e3:f1=far)(hh:0<=h'/\h'<=281474976710656)(hw:0<=w/\w<=281474976710656)(hk:0<=k/\k<=281474976710656)(hm:0<=m/\m<=33554432)(hf:0<=far/\far<=33554432):qae prog 218 [xc h1,xc w,xc k,xc m1,xc f1] h (.tuple #[xc (ji0 h' w k m),xc (jhv h' w far),xc 0]) [] []:=by
 subst e1 e2 e3;exact jpa _ w k _ _ h hh hw hk hm hf
theorem qgx(e:El)(x y x1 y1:Int)(h:Hp)(e1:x1=x)(e2:y1=y)(he:e.may)(hw:qa1 16777216 x y):qae prog 217 [elE e,.agg #[xc x1,xc y1]] h (.tuple #[xc (qlw e x y),xc 0]) [] []:=by
 subst e1 e2;exact q8c e.x e.y e.a e.b e.d _ _ h he hw
theorem jig(e:El)(h:Hp):qae prog 198 [elE e] h (xc (e.rad:Nat)) [] []:=qsp e.x e.y e.a e.b e.d h
theorem jc8(e n:El)(lo hi:Int)(he:e.may)(hn:n.may)(hd:jhr lo hi)(W:World):xa 199 #[elE e,elE n,xc lo,xc hi] W (.tuple #[stV (jfh e n lo hi).1,xc (jfh e n lo hi).2]):=by
 have hr:=(qlu hn).2.1;have he2:=he;have hn2:=hn;have hd2:=hd;unfold El.may mayP qa1 at he2 hn2;unfold jhr at hd2;have w1:IntKind.i64.wrap (e.x-n.x)=e.x-n.x:=je5 _ Q9R Q9R;have w2:IntKind.i64.wrap (e.y-n.y)=e.y-n.y:=je5 _ Q9R Q9R;have w3:IntKind.i64.wrap (0-(e.y-n.y)) = -(e.y-n.y):=by rw[je5 _ Q9R Q9R];omega
 have qx:(e.x-n.x)*(e.x-n.x)<=70368744177664:=by
  have:=yi (by omega:0<=8388608-(e.x-n.x)) (by omega:0<=8388608+(e.x-n.x));have e1:(8388608-(e.x-n.x))*(8388608+(e.x-n.x))=70368744177664-(e.x-n.x)*(e.x-n.x):=by grind
  omega
 have qy:(e.y-n.y)*(e.y-n.y)<=70368744177664:=by
  have:=yi (by omega:0<=8388608-(e.y-n.y)) (by omega:0<=8388608+(e.y-n.y));have e1:(8388608-(e.y-n.y))*(8388608+(e.y-n.y))=70368744177664-(e.y-n.y)*(e.y-n.y):=by grind
  omega
 have q0:=jgz (e.x-n.x);have q1:=jgz (e.y-n.y);have w4:IntKind.i64.wrap (IntKind.i64.wrap ((e.x-n.x)*(e.x-n.x))+IntKind.i64.wrap ((e.y-n.y)*(e.y-n.y)))=(e.x-n.x)*(e.x-n.x)+(e.y-n.y)*(e.y-n.y):=by
  rw[je5 ((e.x-n.x)*(e.x-n.x)) Q9R Q9R,je5 ((e.y-n.y)*(e.y-n.y)) Q9R Q9R,je5 _ Q9R Q9R]
 have w5:IntKind.i64.wrap (lo-n.rad)=lo-n.rad:=je5 _ Q9R Q9R;have w6:IntKind.i64.wrap (hi+n.rad)=hi+n.rad:=je5 _ Q9R Q9R;have b1:=qu5 he (x:=e.x-n.x) (y:=e.y-n.y) Q9R Q9R;have b2:=qu5 he (x:=-(e.y-n.y)) (y:=e.x-n.x) Q9R Q9R;have ew:qa1 16777216 (e.x-n.x) (e.y-n.y):=by unfold qa1;omega
 have ew2:qa1 16777216 (-(e.y-n.y)) (e.x-n.x):=by unfold qa1;omega
 unfold jfh;rw[if_neg (λh=>h ⟨he,hn,hd⟩)];by_cases h0:e.x-n.x=0/\e.y-n.y=0
 .rw[if_pos h0];refine Q42 ?_;repeat' (first|(refine Ba ?_;first|refine Q5P ?_|refine Q65 ?_|refine Q6b ?_|refine Q66 ?_|refine Bg (by rw[w1,w2,h0.1,h0.2];rfl) ?_)|refine qah Q9S ?_)
  all_goals rfl
 rw[if_neg h0];have h0':((IntKind.i64.wrap (e.x-n.x)==0)&&(IntKind.i64.wrap (e.y-n.y)==0))=false:=by
  rw[w1,w2];by_cases hx:e.x-n.x=0
  .have:¬ e.y-n.y=0:=λh=>h0 ⟨hx,h⟩
   simp[this]
  .simp[hx]
 by_cases h1:(jfv e n lo hi).hi<(jfv e n lo hi).lo
 .rw[if_pos h1];refine Q42 ?_;repeat' (first|(refine Ba ?_;first|refine Q5P ?_|refine Q65 ?_|refine Q6b ?_|refine Q66 ?_|refine Bf h0' ?_|refine Bg (by rw[xh];exact h1) ?_)|refine qah Q9S ?_)
  all_goals rfl
 rw[if_neg h1];by_cases h2:(jfv e n lo hi).hi=(jfv e n lo hi).lo
 .rw[if_pos h2];have hlo:(jfv e n lo hi).hi<=562949953421312:=by
   unfold jfv jhv;show min _ _<=_;omega
  have hlo2 : -562949953421312<=(jfv e n lo hi).hi:=by
   unfold jfv jhv;show _<=min _ _;omega
  have w7:IntKind.i64.wrap ((jfv e n lo hi).hi+1)=(jfv e n lo hi).hi+1:=je5 _ Q9R Q9R;refine Q42 ?_;repeat' (first|(refine Ba ?_;first|refine Q5P ?_|refine Q65 ?_|refine Q6b ?_|refine Q66 ?_|refine Bf h0' ?_|refine Bf (by rw[xm];exact h1) ?_|refine Bg (by rw[yv];exact h2) ?_)|refine qah Q9S ?_)
  rw[w1,w2];exact congrArg (λz=>Value.tuple #[.agg #[xc n.x,xc n.y,xc (e.x-n.x),xc (e.y-n.y),xc (jfv e n lo hi).lo,xc z],xc 0]) w7
 .rw[if_neg h2];refine Q42 ?_;repeat' (first|(refine Ba ?_;first|refine Q5P ?_|refine Q65 ?_|refine Q6b ?_|refine Q66 ?_|refine Bf h0' ?_|refine Bf (by rw[xm];exact h1) ?_|refine Bf (by rw[beq_eq_false_iff_ne];exact h2) ?_)|refine qah Q9S ?_)
  rw[w1,w2];rfl
theorem jmo(e n:El)(lo hi:Int)(h:Hp)(he:e.may)(hn:n.may)(hd:jhr lo hi):qae prog 199 [elE e,elE n,xc lo,xc hi] h (.tuple #[stV (jfh e n lo hi).1,xc (jfh e n lo hi).2]) [] []:=
 qai rfl rfl (call199 _) (jc8 e n lo hi he hn hd)
open Go Go.RowKit Sx
def jf5(x:Int):Nat->Value
 | _=>.int .i64 x
theorem qj7(x:Int)(k:Nat):qbh (jf5 x k)=true:=by unfold jf5;split<;>rfl
theorem qrb(x:Int){k:Nat}(h:k<1):cellIn (.agg #[xc x]) k=jf5 x k:=by
 match k,h with
 | 0,_=>rfl
theorem qsv(j:Nat):jf0 1 (.agg #[xc 0]) j=jf5 (0) (j%1):=by
 unfold jf0;have h:j%1<1:=xr _ Q9V;generalize j%1=k at h
 match k,h with
 | 0,_=>rfl
abbrev riC(o:Bool)(c:Nat)(T:Nat->Int):Chunk:=⟨o,c*1,[(0,c*1,.agg ⟨segL (c*1) λj=>jf5 (T (j / 1)) (j%1)⟩)]⟩
variable{j:Nat}{T:Nat->Int}
theorem jli{o:Bool}(h:j<c*1):(riC o c T).f j=jf5 (T (j / 1)) (j%1):=qa6 h
variable{ix:List (Nat×Nat)}
theorem q6g{o o':Bool}{T':Nat->Int}(h:∀i,i<c->T i=T' i):qbg ix (riC o c T) (riC o' c T'):=λj hj=>by
 have hj:j<c*1:=hj;rw[qa6 hj,qa6 hj,h (j / 1) Q9R];exact .plain (qj7 _ _)
theorem q39{T':Nat->Int}{hp:Hp}(h:∀i,i<c->T i=T' i)(hh:hp[n]?=some (some (riC true c T'))):PostC ix hp n (riC true c T):=⟨_,hh,id,nlr _,q6g h⟩
theorem q0j{T':Nat->Int}(h:∀i,i<c->T i=T' i):ChunkReLe ix (riC true c T) (riC true c T'):=⟨id,nlr _,q6g h⟩
def setri(T:Nat->Int)(l:Nat)(x:Int)(i:Nat):Int:=if i=l then x else T i
theorem jlj{l p:Nat}{x:Int}(h:l<c)(e:p=l*1):Writes (riC true c T) p (1*1) (.agg #[xc x]) (riC true c (setri T l x)):=by
 subst e;refine⟨rfl,by show l*1+1*1<=c*1;omega,rfl,λj hj=>?_⟩;have hj:j<c*1:=hj;rw[qa6 hj,qa6 hj];unfold setri;by_cases e:l*1<=j/\j<l*1+1*1
 .rw[if_pos e,if_pos Q9R,qrb _ Q9R];congr 1;omega
 .rw[if_neg e,if_neg Q9R]
def jhn(T:Nat->Int)(l:Nat)(x:Int)(i:Nat):Int:=if i<l then T i else if i=l then x else 0
variable{cap:Nat}
theorem q4a{ci:Chunk}{l:Nat}{x:Int}(h:l<cap)(hc:∀j,j<l*1->ci.f j=jf5 (T (j / 1)) (j%1))(hj:j<cap*1):(grown ci l 1 1 (.agg #[xc x]) (.agg #[xc 0]) cap).f j=jf5 (jhn T l x (j / 1)) (j%1):=by
 unfold jhn;by_cases h1:j<l*1
 .exact Q5F
 .rw[if_neg Q9R];by_cases h2:j<(l+1)*1
  .have:=qgh (ci:=ci) (l:=l) (m:=1) (size:=1) (cap:=cap) (v:=.agg #[xc x]) (z:=.agg #[xc 0]) (j:=j-l*1) Q9R;rw[show l*1+(j-l*1)=j by omega] at this;rw[this,if_pos Q9R,qrb _ Q9R];congr 1;omega
  .rw[qfq Q9R hj,if_neg Q9R];exact qsv j
theorem qlx{ci:Chunk}{l:Nat}{T':Nat->Int}{x:Int}(h:l<cap)(hc:∀j,j<l*1->ci.f j=jf5 (T (j / 1)) (j%1))(he:∀i,i<cap->T' i=jhn T l x i):ChunkReLe ix (riC true cap T') (grown ci l 1 1 (.agg #[xc x]) (.agg #[xc 0]) cap):=
 ⟨λ_=>rfl,by show cap*1<=cap*1;omega,λj hj=>by
  have hj:j<cap*1:=hj;rw[qa6 hj,q4a h hc hj,he _ Q9R];exact .plain (qj7 _ _)⟩
theorem qgy{T:Tbl}:ChunkReLe ix (tblC T) (tblC T):=⟨id,nlr _,nzj⟩
abbrev rl(R:List Int)(c:Nat):Chunk:=riC true c (λi=>R.getD i 0)
theorem q0k(S:List Int)(x:Int):setri (λi=>S.getD i 0) S.length x=λi=>(S++[x]).getD i 0:=by
 funext i;unfold setri;by_cases h:i=S.length
 .rw[if_pos h];simp[h]
 .rw[if_neg h];by_cases h2:i<S.length
  .simp[xD,yH h2]
  .simp[xD,yl (l:=S) (i:=i) Q9R,yl (l:=S++[x]) (i:=i) Qah]
theorem qu7(S:List Int)(x:Int)(i:Nat):(S++[x]).getD i 0=jhn (λi=>S.getD i 0) S.length x i:=by
 rw[<-congrFun (q0k S x) i];unfold setri jhn;by_cases h:i<S.length
 .rw[if_neg Q9R,if_pos h]
 .rw[if_neg h];by_cases h2:i=S.length
  .rw[if_pos h2,if_pos h2]
  .rw[if_neg h2,if_neg h2];simp[xD,yl (l:=S) (i:=i) Q9R]
theorem qm7{S S':List Int}(e:S'=S):ChunkReLe ix (rl S' c) (rl S c):=by subst e;exact q0j λ_ _=>rfl
theorem qoq{S S':List Int}{x:Int}(e:S'=S++[x]):ChunkReLe ix (rl S' c) (riC true c (setri (λi=>S.getD i 0) S.length x)):=by subst e;rw[q0k];exact q0j λ_ _=>rfl
theorem qkr{S S':List Int}{x:Int}(e:S'=S++[x])(h:S.length<cap)(hc:S.length<=c):ChunkReLe ix (rl S' cap) (grown (rl S c) S.length 1 1 (.agg #[xc x]) (.agg #[xc 0]) cap):=by
 subst e;exact qlx h (λj hj=>jli Q9R) λi _=>qu7 S x i
theorem qdr{i l l':Nat}(e:l'=l)(h:ixK ix i=some j):Re ix (.slice (some ⟨j,0,some 0⟩) l' c) (.slice (some ⟨i,0,some 0⟩) l c):=by subst e;exact .one (.slice h)
def evP(now silent:Int)(x:Ent):Bool:=decide (max 1 silent<=now)&&decide (x.heard<=now-max 1 silent)
def evL(E:Ez)(p:Ent->Bool):Nat->List Int
 | 0=>[]
 | r+1=>if p (entT E r)=true then evL E p r++[(entT E r).node] else evL E p r
def evE(E:Ez)(p:Ent->Bool):Nat->Ez
 | 0=>E
 | r+1=>if p (entT E r)=true then jfw (evE E p r) (entT E r).node else evE E p r
theorem qja(E:Ez)(p:Ent->Bool):∀r,(evL E p r).length<=r
 | 0=>nlr _
 | r+1=>by
  unfold evL;split
  .rw[xv];have:=qja E p r;simp only[xS,yh];omega
  .have:=qja E p r;omega
def Tbl.ev(T:Tbl)(now silent:Int):Tbl:=⟨T.most,evE T.E (evP now silent) T.E.length,T.lives⟩
def qj8(T:Tbl)(now silent:Int):List Int:=evL T.E (evP now silent) T.E.length
def evR(T':Tbl)(L:List Int)(i k:Nat)(v:Value)(ms:Mz):Prop:=
 (L=[]/\v=.slice none 0 0/\ms=[(i,tblC T')])\/∃cap,0<L.length/\L.length<=cap/\v=.slice (some ⟨k,0,some 0⟩) L.length cap/\ms=[(i,tblC T'),(k,rl L cap)]
def jmp(silent:Int)(r:Nat):Int:=if r=0 then silent else max 1 silent
theorem q0l(silent:Int)(r:Nat):max 1 (jmp silent r)=max 1 silent:=by unfold jmp;split<;>omega
theorem q0m{E:Ez}{r p m:Nat}(hr:r<n)(hc:n<=cap)(hm:m=10)(hp:p=r*10):Reads (enC true cap λi=>if i<n then entT E i else Ent.zero) p true m (entV (entT E r)):=by
 have h:=jjp (o:=true) (c:=cap) (T:=λi=>if i<n then entT E i else Ent.zero) r hm Q9R hp;simp only[if_pos hr] at h;exact h
theorem q88{S:List Int}{h:Hp}(hj:j<c*1):Safe1 h ((rl S c).f j):=by
 rw[jli hj];trivial
theorem qjb{S':List Int}{x:Int}(e:S'=[]++[x])(h:0<cap):ChunkReLe ix (rl S' cap) (grown ⟨true,0,[]⟩ 0 1 1 (.agg #[xc x]) (.agg #[xc 0]) cap):=by
 subst e;exact qlx (T:=λ_=>0) h (λj hj=>absurd hj Q9R) λi _=>qu7 [] x i
inductive EvS where
 | no (r:Nat)
 | yes (r c:Nat)
def EvS.r:EvS->Nat
 | .no r=>r
 | .yes r _=>r
def jrs(T:Tbl)(now silent:Int):EvS->Prop
 | .no r=>r<=T.E.length/\evL T.E (evP now silent) r=[]
 | .yes r c=>r<=T.E.length/\0<(evL T.E (evP now silent) r).length/\(evL T.E (evP now silent) r).length<=c
@[reducible] def evSet(T:Tbl)(now silent:Int):EvS->Vz
 | .no r=>[(13,.int .i64 (r:Int)),(7,.slice none 0 0),(2,.int .i64 (jmp silent r))]
 | .yes r c=>[(13,.int .i64 (r:Int)),(7,.slice (some ⟨4,0,some 0⟩) (evL T.E (evP now silent) r).length c),(2,.int .i64 (jmp silent r))]
@[reducible] def evHs(T:Tbl)(now silent:Int):EvS->Mz
 | .no r=>[(1,mapC entV (evE T.E (evP now silent) r))]
 | .yes r c=>[(1,mapC entV (evE T.E (evP now silent) r)),(4,rl (evL T.E (evP now silent) r) c)]
theorem q6h(T:Tbl)(hE:T.E.length<=64)(now silent:Int)(hnow:now<9223372036854775808)(hsl : -9223372036854775808<=silent/\silent<9223372036854775808)(i K:Nat)(h:Hp)(hi:h[i]?=some (some (tblC T)))(hK:h[K]?=some none):
  CallAll prog 37 [xd i,xc now,xc silent] h (evR (T.ev now silent) (qj8 T now silent) i K):=by
 have key:=qa7 (G:=tys) (h:=h) (vs:=[xd i,.int .i64 now,.int .i64 silent]) (qba T.lives) (jgs T) (α:=Option Nat) (λκ=>match κ with|none=>qj8 T now silent=[]|some cap=>0<(qj8 T now silent).length/\(qj8 T now silent).length<=cap) (λκ=>match κ with|none=>.slice none 0 0|some cap=>.slice (some ⟨K,0,some 0⟩) (qj8 T now silent).length cap) [⟨i,tblC T,tblC T,tblC (T.ev now silent)⟩] (λ_=>[tblC (T.ev now silent)])
  (λκ=>match κ with|none=>[]|some cap=>[⟨K,4,rl (qj8 T now silent) cap⟩]) [xd 0,xc now,xc silent] tysOK mixed func37 Q9S (call37) ⟨hi,xb⟩ ⟨Q7X,xb⟩ Q9I Q9X Q81 (λκ hκ=>by
   cases κ with
   | none=>exact trivial
   | some cap=>exact⟨⟨hK,rfl,.inl (by show 0<cap*1;have:=hκ.1;have:=hκ.2;omega),by simp⟩,xb⟩) ⟨.ptr rfl,.plain rfl,.plain rfl,xb⟩ qau ?_
 .exact Q2F
 intro β hβ
 repeat' (refine Ba ?_;first|refine Q5V ?_|refine Q5R ?_|refine Q60 ?_|fail)
 refine Ba ?_
 refine Bh (jk0 _ _ _ T.E hE 0 1 2 3 _ Q9S Q9S Q9V Q9S) λv ms hR=>?_
 rcases hR with ⟨hE0,rfl,rfl⟩|⟨ce,hpos,hce,rfl,rfl⟩
 .have hl0:T.E.length=0:=by rw[hE0];rfl
  have hEv:(T.ev now silent).E=T.E:=by unfold Tbl.ev;rw[hl0];rfl
  have hLv:qj8 T now silent=[]:=by unfold qj8;rw[hl0];rfl
  refine Q1S ?_;refine Bp 1 ?_;refine Q1S ?_;refine qb3 (T.ev now silent) β 0 1 2 [] qbw (λi hi=>.inl Qa4) hβ Q9S Q9S Q9S Q9S Q9S Q9S Q9S (by rw[hEv];rfl) Q9S Q9V (λk hk=>by cases hk) jg8 (qbn rfl) ?_;refine Bn none ⟨hLv,?_⟩;exact Q2z
 .refine Q1S ?_;refine Bq (α:=EvS) (jrs T now silent) (λs=>T.E.length-s.r) (evSet T now silent) (evHs T now silent) (.no 0) [(0,0),(1,1),(2,2),(3,3)] ⟨xi _,rfl⟩ ?_ ?_
  .repeat' (refine Ba ?_;first|refine Q5V ?_|refine Q5R ?_|exact Be|refine Q6d ?_|refine Q6W ?_|fail)
  .intro s hs;have hr:s.r<=T.E.length:=by cases s<;>exact hs.1
   by_cases hlt:s.r<T.E.length
   .cases s with
    | no r=>
     obtain⟨r1,r2⟩:=hs;have hlt:r<T.E.length:=hlt;have r2:evL T.E (evP now silent) r=[]:=r2;refine Q4H ?_;by_cases hp:evP now silent (entT T.E r)=true
     .have e1:evL T.E (evP now silent) (r+1)=evL T.E (evP now silent) r++[(entT T.E r).node]:=if_pos hp;have e2:evE T.E (evP now silent) (r+1)=jfw (evE T.E (evP now silent) r) (entT T.E r).node:=if_pos hp;obtain⟨h1,h2⟩:max 1 silent<=now/\(entT T.E r).heard<=now-max 1 silent:=by unfold evP at hp;simpa using hp
      have hw:IntKind.i64.wrap (now-max 1 silent)=now-max 1 silent:=je5 _ Q9R Q9R;refine Q0t ?_;refine qjp (.agg #[xc (entT T.E r).node]) Q8O Q9V Q9V Q9V λcap hcap=>?_
      refine Q1N ?_;rw[r2] at e1;refine Bm (α:=EvS) (.yes (r+1) cap) [(0,0),(1,1),(2,2),(3,3),(6,4)] (And.intro ⟨hlt,by show 0<(evL T.E (evP now silent) (r+1)).length;rw[e1];exact nlr _,by show(evL T.E (evP now silent) (r+1)).length<=cap;rw[e1];exact hcap⟩ Qa9) ?_;repeat' (refine Ba ?_;first|refine Q5V ?_|refine Q5R ?_|refine Bc Q88 ?_|refine Q72 ?_|refine Bc (qdr (by show(evL T.E (evP now silent) (r+1)).length=_;rw[e1];rfl) Q9S) ?_|refine Bc Qab ?_|refine Bc (qjb e1 hcap) ?_|exact Be|refine Q6d ?_|refine Q6W ?_|fail)
     .have e1:evL T.E (evP now silent) (r+1)=evL T.E (evP now silent) r:=if_neg hp;have e2:evE T.E (evP now silent) (r+1)=evE T.E (evP now silent) r:=if_neg hp;by_cases h1:max 1 silent<=now
      .have hw:IntKind.i64.wrap (now-max 1 silent)=now-max 1 silent:=je5 _ Q9R Q9R;have h2:¬ (entT T.E r).heard<=now-max 1 silent:=λh2=>hp (by unfold evP;simp[h1,h2])
       exact Q3j
      .exact Q3j
    | yes r c=>
     obtain⟨r1,r2,r3⟩:=hs;have hlt:r<T.E.length:=hlt;have r2:0<(evL T.E (evP now silent) r).length:=r2;have r3:(evL T.E (evP now silent) r).length<=c:=r3;have r4:=qja T.E (evP now silent) r;refine Q4H ?_;by_cases hp:evP now silent (entT T.E r)=true
     .have e1:evL T.E (evP now silent) (r+1)=evL T.E (evP now silent) r++[(entT T.E r).node]:=if_pos hp;have e2:evE T.E (evP now silent) (r+1)=jfw (evE T.E (evP now silent) r) (entT T.E r).node:=if_pos hp;obtain⟨h1,h2⟩:max 1 silent<=now/\(entT T.E r).heard<=now-max 1 silent:=by unfold evP at hp;simpa using hp
      have hw:IntKind.i64.wrap (now-max 1 silent)=now-max 1 silent:=je5 _ Q9R Q9R;refine Q0t ?_;refine qlg (.agg #[xc (entT T.E r).node]) Q8O Q9S (by show _*1<=c*1;omega) Q9R Qbg (riC true c (setri (λi=>(evL T.E (evP now silent) r).getD i 0) (evL T.E (evP now silent) r).length (entT T.E r).node)) (λh=>jlj Q9R rfl) (λhr=>?_) (λhg2 cap hcap=>?_)
      .refine Q1N ?_;refine Bm (α:=EvS) (.yes (r+1) c) [(0,0),(1,1),(2,2),(3,3),(4,4)] (And.intro ⟨hlt,by show 0<(evL T.E (evP now silent) (r+1)).length;rw[e1,xv];exact zG _ _,by show(evL T.E (evP now silent) (r+1)).length<=c;rw[e1,xv];exact hr⟩ Qa9) ?_;repeat' (refine Ba ?_;first|refine Q5V ?_|refine Q5R ?_|refine Bc Q88 ?_|refine Q72 ?_|refine Bc Q9s ?_|refine Bc Qab ?_|refine Bc (qoq e1) ?_|exact Be|refine Q6d ?_|refine Q6W ?_|fail)
      .refine Q1N ?_;refine Bm (α:=EvS) (.yes (r+1) cap) [(0,0),(1,1),(2,2),(3,3),(7,4)] (And.intro ⟨hlt,by show 0<(evL T.E (evP now silent) (r+1)).length;rw[e1,xv];exact zG _ _,by show(evL T.E (evP now silent) (r+1)).length<=cap;rw[e1,xv];exact hcap⟩ Qa9) ?_;repeat' (refine Ba ?_;first|refine Q5V ?_|refine Q5R ?_|refine Bc Q88 ?_|refine Q72 ?_|refine Bc Q9s ?_|refine Bc Qab ?_|refine Bc (qkr e1 hcap r3) ?_|exact Be|refine Q6d ?_|refine Q6W ?_|fail)
     .have e1:evL T.E (evP now silent) (r+1)=evL T.E (evP now silent) r:=if_neg hp;have e2:evE T.E (evP now silent) (r+1)=evE T.E (evP now silent) r:=if_neg hp;by_cases h1:max 1 silent<=now
      .have hw:IntKind.i64.wrap (now-max 1 silent)=now-max 1 silent:=je5 _ Q9R Q9R;have h2:¬ (entT T.E r).heard<=now-max 1 silent:=λh2=>hp (by unfold evP;simp[h1,h2])
       exact Q2M
      .exact Q2M
   .cases s with
    | no r=>
     obtain⟨r1,r2⟩:=hs;have hr:r<=T.E.length:=hr;have hlt:¬ r<T.E.length:=hlt;obtain rfl:r=T.E.length:=by omega
     refine Q40 ?_;refine Q1C ?_;refine qb3 (T.ev now silent) β 0 1 2 [] qbw (λi hi=>.inl Qa4) hβ Q9S Q9S Q9S Q9S Q9S Q9S Q9S Q9S Q9S Q9V (λk hk=>by cases hk) jg8 (qbn rfl) ?_;refine Bn none ⟨r2,?_⟩;exact Q2z
    | yes r c=>
     obtain⟨r1,r2,r3⟩:=hs;have hr:r<=T.E.length:=hr;have hlt:¬ r<T.E.length:=hlt;obtain rfl:r=T.E.length:=by omega
     refine Q40 ?_;refine Q1C ?_;refine qb3 (T.ev now silent) β 0 1 2 [4] qbw (λi hi=>.inl Qa4) hβ Q9S Q9S Q9S Q9S Q9S Q9S Q9S Q9S Q9S Q9V (λk hk=>by simp at hk;omega) (λk hk d hd l hl=>?_) (λρ ρ' ha=>by have:=ha 4 ⟨_,rfl⟩;simp[den,den2,den1,den0,jft,this]) ?_
     .obtain rfl:k=4:=by simpa using hk
      obtain rfl:rl (evL T.E (evP now silent) T.E.length) c=d:=by simpa using hd
      exact q88 hl
     refine Bn (some c) ⟨⟨r2,r3⟩,?_⟩;refine Bc (.one (.slice rfl)) ?_;refine Q2E ?_;refine Bc ⟨⟨xT rfl,q39 (c:=c) (T:=λi=>(evL T.E (evP now silent) T.E.length).getD i 0) (T':=λi=>(evL T.E (evP now silent) T.E.length).getD i 0) (λ_ _=>rfl) Q9S⟩,xb⟩ ?_;exact Q4Z
theorem jjz(T:Tbl)(hE:T.E=[])(i:Nat)(h:Hp)(hi:h[i]?=some (some (tblC T))):
  qae prog 57 [xd i] h (.slice none 0 0) [(i,tblC T)] []:=by
 refine qar (G:=tys) (qba T.lives) (jgs T) [⟨i,tblC T,tblC T,tblC T⟩] [] [xd 0] tysOK mixed func57 Q9S (call57) ⟨hi,xb⟩ ⟨Q7X,xb⟩ Q9X Q81 xb ⟨.ptr rfl,xb⟩ qau ?_
 intro β hβ
 repeat' (refine Ba ?_;first|refine Q5P ?_|refine Bb (qyg 1 3 _ _ Q9S Q9S) ?_|fail)
 refine Ba ?_
 refine Bh (qnx T.E 1 3 7 _ _ Q9S rfl Q9S Q9S (by rw[hE];exact xi _)) λv ms hR=>?_
 rcases hR with ⟨hE0,rfl,rfl⟩|⟨kc,hpos,hkc,rfl,rfl⟩
 .refine Q2A ?_;refine Bp 1 ?_;refine Q2A ?_;exact Q3o
 .rw[hE] at hpos;exact absurd hpos (Nat.lt_irrefl 0)
theorem q89(T:Tbl)(hE:T.E=[])(now silent:Int)(i:Nat)(h:Hp)(hi:h[i]?=some (some (tblC T))):
  qae prog 37 [xd i,xc now,xc silent] h (.slice none 0 0) [(i,tblC T)] []:=by
 refine qar (G:=tys) (qba T.lives) (jgs T) [⟨i,tblC T,tblC T,tblC T⟩] [] [xd 0,xc now,xc silent] tysOK mixed func37 Q9S (call37) ⟨hi,xb⟩ ⟨Q7X,xb⟩ Q9X Q81 xb Q85 qau ?_
 intro β hβ
 repeat' (refine Ba ?_;first|refine Q5P ?_|refine Q66 ?_|fail)
 refine Ba ?_
 refine Bh (jk0 _ _ _ T.E (by rw[hE];exact xi _) 0 1 2 3 _ Q9S Q9S Q9V Q9S) λv ms hR=>?_
 rcases hR with ⟨hE0,rfl,rfl⟩|⟨ce,hpos,hce,rfl,rfl⟩
 .refine Q30 ?_;refine Bp 1 ?_;refine Q30 ?_;exact Q3o
 .rw[hE] at hpos;exact absurd hpos (Nat.lt_irrefl 0)
open Go Go.RowKit Sx
theorem jc9(D:NdS)(T:Tbl)(hE:T.E=[])(i0 i1 i2 i3 i4 i5:Nat)(h:Hp)(c0 cf cb cm:Chunk)(h0:h[i0]?=some (some c0))(h1:h[i1]?=some (some (ndC D i2 i3 i4 i5)))(h2:h[i2]?=some (some cf))(h3:h[i3]?=some (some (tblC T)))(h4:h[i4]?=some (some cb))(h5:h[i5]?=some (some cm))(hne:[i0,i1,i2,i3,i4,i5].Nodup):
  qae prog 42 [xd i1,xd i0] h (.tuple #[]) [(i1,ndC D i2 i3 i4 i5),(i3,tblC T)] [i0,i2,i4,i5]:=by
 refine qar (G:=tys) (h:=h) (vs:=[xd i1,xd i0]) (λ_:Unit=>True) (λ_=>_) [⟨i0,_,noC,noC⟩,⟨i1,_,ndC D 2 3 4 5,ndC D i2 i3 i4 i5⟩,⟨i2,_,noC,noC⟩,⟨i3,tblC T,tblC T,tblC T⟩,⟨i4,_,noC,noC⟩,⟨i5,_,noC,noC⟩] [] [xd 1,xd 0] tysOK mixed func42 Q9S (call42) ⟨h0,h1,h2,h3,h4,h5,xb⟩
  ⟨Q82,Q8g,Q82,Q7X,Q82,Q82,xb⟩ (by
   simp only[xL,xj,xK,not_or,xI,or_false,and_true] at hne;simp[Apart];omega) ⟨.inl rfl,.inr ⟨rfl,rfl⟩,.inl rfl,.inr ⟨rfl,rfl⟩,.inl rfl,.inl rfl,xb⟩ xb ⟨.ptr Q9S,.ptr Q9S,xb⟩ Opens.same ?_
 rintro⟨⟩ -
 repeat' (refine Ba ?_;first|refine Q5P ?_|refine Bb (jjz T hE 3 _ Q9S) ?_|refine Bb (qzx _ _) ?_|refine Q6c ?_|fail)
 refine Ba ?_
 refine Bl ?_
 refine Bc (.plain Q9S) ?_
 refine Bc ⟨Q8B,⟨_,rfl,id,nlr _,nzj⟩,xb⟩ ?_
 refine Bc xb ?_
 refine Bc Q9i ?_
 exact Be
theorem jda(D:NdS)(T:Tbl)(hE:T.E=[])(i0 i1 i2 i3 i4 i5:Nat)(h:Hp)(c0 cf cb cm:Chunk)(h0:h[i0]?=some (some c0))(h1:h[i1]?=some (some (ndC D i2 i3 i4 i5)))(h2:h[i2]?=some (some cf))(h3:h[i3]?=some (some (tblC T)))(h4:h[i4]?=some (some cb))(h5:h[i5]?=some (some cm))(hne:[i0,i1,i2,i3,i4,i5].Nodup):
  qae prog 43 [xd i1,xd i0] h (.tuple #[]) [(i1,ndC D i2 i3 i4 i5),(i3,tblC T)] [i0,i2,i4,i5]:=by
 refine qar (G:=tys) (h:=h) (vs:=[xd i1,xd i0]) (λ_:Unit=>True) (λ_=>_) [⟨i0,_,noC,noC⟩,⟨i1,_,ndC D 2 3 4 5,ndC D i2 i3 i4 i5⟩,⟨i2,_,noC,noC⟩,⟨i3,tblC T,tblC T,tblC T⟩,⟨i4,_,noC,noC⟩,⟨i5,_,noC,noC⟩] [] [xd 1,xd 0] tysOK mixed func43 Q9S (call43) ⟨h0,h1,h2,h3,h4,h5,xb⟩
  ⟨Q82,Q8g,Q82,Q7X,Q82,Q82,xb⟩ (by
   simp only[xL,xj,xK,not_or,xI,or_false,and_true] at hne;simp[Apart];omega) ⟨.inl rfl,.inr ⟨rfl,rfl⟩,.inl rfl,.inr ⟨rfl,rfl⟩,.inl rfl,.inl rfl,xb⟩ xb ⟨.ptr Q9S,.ptr Q9S,xb⟩ Opens.same ?_
 rintro⟨⟩ -
 repeat' (refine Ba ?_;first|refine Q5P ?_|refine Bp 1 ?_|refine Bb (jjz T hE 3 _ Q9S) ?_|refine Bb (qol _ _) ?_|refine Q66 ?_|refine Q6c ?_|fail)
 refine Ba ?_
 refine Bl ?_
 refine Bc (.plain Q9S) ?_
 refine Bc ⟨Q8B,⟨_,rfl,id,nlr _,nzj⟩,xb⟩ ?_
 refine Bc xb ?_
 refine Bc Q9i ?_
 exact Be
structure NSt where
 C:Nat->Int
 id:Int
 boot:Int
 seq:Int
 told:Int
 asked:Int
 bad:Int
 fm:Int
 fv:Bool
 fx:Int
 fy:Int
 fa:Int
 fb:Int
 fd:Int
 T:Tbl
 bn:Int
 bl:Int
 te:Int
 tx:Int
 S:Nat->Ses
abbrev NSt.nd(s:NSt)(g:Rz):NdS:=⟨s.C,s.id,s.boot,g,s.S,s.seq,s.told,s.asked,s.bad⟩
abbrev ndH(s:NSt)(g:Rz):Hp:=[some (ndC (s.nd g) 1 2 3 4),some (fiC s.fm s.fv s.fx s.fy s.fa s.fb s.fd),some (tblC s.T),some (twC s.bn s.bl),some (twC s.te s.tx)]
abbrev ndP(s:NSt):Chunk:=packC (λ_:Rz=>True) (ndH s)
theorem qa2{ss:List je2}{h:Hp}{v:Value}{K:Value->Hp->Prop}(s:NSt)(g:Rz)(m i1 i2 i3 i4:Nat)(keep:List Nat){c c1 c3 c4:Chunk}(hpc:∀l,(l=m\/l=i1\/l=i2\/l=i3\/l=i4)->l<ss.length->∃s,ss[l]?=some s/\s.e.x≠Ext.none/\Selfish s.e.x)(hbs:∀i,i<ss.length->i=m\/i∈keep)
  (hm:h[m]?=some (some c)) (ho:c.own=true) (hn:c.n=85) (hx:c.x=jfb jfo 64 g s.S) (hc:∀j,j<85->Re1 [(0,m),(1,i1),(2,i2),(3,i3),(4,i4)] (c.f j) ((ndC (s.nd g) 1 2 3 4).f j))
  (h1:h[i1]?=some (some c1)) (ho1:c1.own=true) (hn1:c1.n=7) (hc1:∀j,j<7->Re1 [(0,m),(1,i1),(2,i2),(3,i3),(4,i4)] (c1.f j) ((fiC s.fm s.fv s.fx s.fy s.fa s.fb s.fd).f j))
  (h2:h[i2]?=some (some (tblC s.T)))
  (h3:h[i3]?=some (some c3)) (ho3:c3.own=true) (hn3:c3.n=2) (hc3:∀j,j<2->Re1 [(0,m),(1,i1),(2,i2),(3,i3),(4,i4)] (c3.f j) ((twC s.bn s.bl).f j))
  (h4:h[i4]?=some (some c4)) (ho4:c4.own=true) (hn4:c4.n=2) (hc4:∀j,j<2->Re1 [(0,m),(1,i1),(2,i2),(3,i3),(4,i4)] (c4.f j) ((twC s.te s.tx).f j))
  (hd:jh9 [(0,m),(1,i1),(2,i2),(3,i3),(4,i4)]=true)
  (hkk:∀k∈keep,k≠m/\k≠i1/\k≠i2/\k≠i3/\k≠i4) (hkd:∀k∈keep,∀(d:Chunk),h[k]?=some (some d)->∀l,l<d.n->Safe1 (qck (ndP s) m keep h 0) (d.f l))
  (hv:∀ρ ρ',AgreeOn (Fil (qck (ndP s) m keep h 0)) ρ ρ'->den ρ' v=den ρ v) (kk:K v (qck (ndP s) m keep h 0)):N (EndN ss h v K):=by
 refine qyf (ok:=λ_:Rz=>True) (hB:=ndH s) g m [(0,m),(1,i1),(2,i2),(3,i3),(4,i4)] keep (λk l hk hl=>hpc l ?_ hl) hbs xb rfl ⟨_,rfl⟩ hd rfl ?_ (λk hk l i' hm'=>?_) hkd hv (xe.1 hm).1 kk
 .exact Q5s
 .intro k d hk
  match k,hk with
  | 0,hk=>
   obtain rfl:_=d:=by simpa using hk
   exact⟨m,c,rfl,hm,ho,by rw[hn];exact nlr _,hc,.inr hx.symm,.inl Q9R⟩
  | 1,hk=>
   obtain rfl:_=d:=by simpa using hk
   exact⟨i1,c1,rfl,h1,ho1,by rw[hn1];exact nlr _,hc1,.inl rfl,.inl Q9R⟩
  | 2,hk=>
   obtain rfl:_=d:=by simpa using hk
   exact⟨i2,_,rfl,h2,rfl,nlr _,nzj,.inr rfl,.inr qa8⟩
  | 3,hk=>
   obtain rfl:_=d:=by simpa using hk
   exact⟨i3,c3,rfl,h3,ho3,by rw[hn3];exact nlr _,hc3,.inl rfl,.inl Q9R⟩
  | 4,hk=>
   obtain rfl:_=d:=by simpa using hk
   exact⟨i4,c4,rfl,h4,ho4,by rw[hn4];exact nlr _,hc4,.inl rfl,.inl Q9R⟩
  | k+5,hk=>simp at hk
 .exact Q3J
open Go Go.RowKit Sx
theorem q4b(s:Int)(w:World):xa 35 #[xc s] w (.bool (decide (0<=s/\s<=1000000))):=by
 refine qac (G:=tys) w tysOK mixed func35 Q9S Q9U Q9T ?_;exact Q1U
theorem qfo(s:Int)(h:Hp):qae prog 35 [xc s] h (.bool (decide (0<=s/\s<=1000000))) [] []:=qai rfl rfl (call35 _) (q4b s)
theorem q6i(s:NSt):(ndP s).x≠Ext.none:=λe=>by
 have h1:∀p S w,(ndP s).x.inv p S w->S p.1:=qa8;exact Q5N
theorem qa3{i:Nat}{T T':NSt}:∀l,(l=0\/l=1\/l=2\/l=3\/l=4)->l<[(⟨i,ndP T,ndP T,ndP T'⟩:je2)].length->∃s,[(⟨i,ndP T,ndP T,ndP T'⟩:je2)][l]?=some s/\s.e.x≠Ext.none/\Selfish s.e.x:=λl _ hl=>by
 obtain rfl:l=0:=by simpa using hl
 exact⟨_,rfl,q6i T,qa8⟩
theorem jdb(s:NSt)(hE:s.T.E=[])(hv:s.fv=true)(now fine:Int)(ht:0<=now/\now<=1000000)(hd:¬ now<s.tx)(hte:0<=s.te/\s.te<=1000000)(hbn:0<s.bn/\s.bn<1000)(hs:0<=s.seq/\s.seq<65535)(hb:0<=s.boot/\s.boot<=65535)(i K:Nat)(h:Hp)(hi:h[i]?=some (some (ndP s)))(hK:h[K]?=some none):
  CallAll prog 9 [xd i,xc now,xc fine] h (λv ms=>∃κ:Nat,1<=κ/\v=.slice (some ⟨K,0,some 0⟩) 1 κ/\ms=[(i,ndP {s with bl:=s.bn-1,seq:=s.seq+1,tx:=now+s.te}),(K,jlu (outV 5 s.id s.boot s.seq now 0 0 0 0 0 s.fx s.fy s.fa s.fb s.fd fine))]):=by
 have key:=qa7 (G:=tys) (h:=h) (vs:=[xd i,.int .i64 now,.int .i64 fine]) (λ_:Rz=>True) (ndH s) (α:=Nat) (λκ=>1<=κ) (λκ=>.slice (some ⟨K,0,some 0⟩) 1 κ) [⟨i,ndP s,ndP s,ndP s⟩] (λ_=>[ndP {s with bl:=s.bn-1,seq:=s.seq+1,tx:=now+s.te}]) (λκ=>[⟨K,6,jlu (outV 5 s.id s.boot s.seq now 0 0 0 0 0 s.fx s.fy s.fa s.fb s.fd fine)⟩]) [xd 0,.int .i64 now,.int .i64 fine] tysOK mixed func9 Q9S (call9) ⟨hi,xb⟩ ⟨Q7X,xb⟩ Q9I Q9X Q81 (λκ hκ=>⟨⟨hK,rfl,.inl (by show 0<16;decide),by simp⟩,xb⟩) Q85 qau ?_
 .refine qav key λv ms hR=>?_
  exact Q49
 intro g _
 repeat' (refine Ba ?_;first|refine Q5P ?_|refine Q7a ?_|refine Bb (q89 s.T hE _ _ 2 _ Q9S) ?_|refine Q7f ?_|refine Q66 ?_|fail)
 refine Ba ?_
 refine Bh (jcb (s.nd g) now fine s.bn s.bn 5 0 0 0 0 0 0 0 0 0 s.fx s.fy s.fa s.fb s.fd Q9R hs hb 5 0 1 2 3 4 6 _ _ _ _ Q9S Q9S Q9S Q9S Q9S Q9S Q9S Q9V) λv ms hR=>?_
 obtain⟨κ,hκ,rfl,rfl⟩:=hR
 repeat' (refine Ba ?_;first|refine Q5P ?_|refine Bb (jc9 _ s.T hE 5 0 1 2 3 4 _ _ _ _ _ Q9S Q9S Q9S Q9S Q9S Q9S Q9V) ?_|refine Bb (jda _ s.T hE 5 0 1 2 3 4 _ _ _ _ _ Q9S Q9S Q9S Q9S Q9S Q9S Q9V) ?_|fail)
 refine Ba ?_
 refine qa2 {s with bl:=s.bn-1,seq:=s.seq+1,tx:=now+s.te} g 0 1 2 3 4 [6] qa3 (λi hi=>.inl Qa4) Q9S rfl rfl rfl (jhd (D:={s.nd g with seq:=s.seq+1}) (f:=1) (t:=2) (b:=3) (m:=4) (f':=1) (t':=2) (b':=3) (m':=4) Q9S Q9S Q9S Q9S) Q9S rfl rfl re7 Q9S Q9S rfl rfl re2 Q9S rfl rfl re2 Q9S (λk hk=>by simp at hk;omega) (λk hk d hd l hl=>?_) Q8u ?_
 .obtain rfl:k=6:=by simpa using hk
  obtain rfl:jlu _=d:=by simpa using hd
  have hl:l<16:=hl;generalize qck _ _ _ _ _=HH;exact joq (p:=λj=>Safe1 HH (Chunk.f (jlu (outV 5 s.id s.boot s.seq now 0 0 0 0 0 s.fx s.fy s.fa s.fb s.fd fine)) j)) xb xb xb xb xb xb xb xb xb xb xb xb xb xb xb xb l hl
 refine Bn κ ⟨hκ,?_⟩
 refine Bc Q8D ?_
 refine Bc Q8c ?_
 refine Bc ⟨⟨xT rfl,_,rfl,id,nlr _,QaL⟩,xb⟩ ?_
 refine Bc Q87 ?_
 exact Be
theorem jdc(n a b:Int)(w:World):xa 64 #[xc n,xc a,xc b] w (.bool (decide (a<=n/\n<=b))):=by
 refine qac (G:=tys) w tysOK mixed func64 Q9S Q9U Q9T ?_;exact Q1U
theorem jpc(n a b:Int)(h:Hp):qae prog 64 [xc n,xc a,xc b] h (.bool (decide (a<=n/\n<=b))) [] []:=qai rfl rfl (call64 _) (jdc n a b)
structure ji2(C:Nat->Int):Prop where
 h0:1<=C 0/\C 0<=64
 h1:1<=C 1/\C 1<=64
 h2:0<=C 2/\C 2<=1000
 h3:0<=C 3/\C 3<=1000
 h4:C 4=1
 h5:0<=C 5/\C 5<=1000
 h6:C 6=50
 h7:1<=C 7/\C 7<=10000
 h8:1<=C 8/\C 8<=1000
 h9:1<=C 9/\C 9<=100
 h10:2<=C 10/\C 10<=140737488355328
abbrev cfV(C:Nat->Int):Value:=.agg ⟨[xc (C 0),xc (C 1),xc (C 2),xc (C 3),xc (C 4),xc (C 5),xc (C 6),xc (C 7),xc (C 8),xc (C 9),xc (C 10)]⟩
theorem q9a(C:Nat->Int)(hC:ji2 C)(w:World):xa 23 #[cfV C] w (.bool true):=by
 obtain⟨c0,c1,c2,c3,c4,c5,c6,c7,c8,c9,c10⟩:=hC;refine qac (G:=tys) w tysOK mixed func23 Q9S Q9U Q9T ?_;repeat' (refine Ba ?_;first|refine Q5P ?_|refine Bb (jpc _ _ _ _) ?_|refine Q64 ?_|fail)
 all_goals
  rw[c4,c6,show IntKind.i64.wrap (2*1)=2 by decide,show IntKind.i64.wrap (50+2)=52 by decide,show IntKind.i64.wrap (52+2)=54 by decide,je5 (C 9*54) Q9R Q9R]
  exact congrArg Value.bool (xg Q9R)
theorem q0n(C:Nat->Int)(hC:ji2 C)(h:Hp):qae prog 23 [cfV C] h (.bool true) [] []:=qai rfl rfl (call23 _) (q9a C hC)
open Go Go.RowKit Sx
theorem q6j(x y:Operand)(a b c d e p q r s t:Int):BinIs prog .eql 27 x y (.agg ⟨[xc a,xc b,xc c,xc d,xc e]⟩) (.agg ⟨[xc p,xc q,xc r,xc s,xc t]⟩) (.bool (a==p&&(b==q&&(c==r&&(d==s&&e==t))))):=
 Q8y
theorem q0o(x y:Operand)(a b c d e p q r s t:Int):BinIs prog .neq 27 x y (.agg ⟨[xc a,xc b,xc c,xc d,xc e]⟩) (.agg ⟨[xc p,xc q,xc r,xc s,xc t]⟩) (.bool !(a==p&&(b==q&&(c==r&&(d==s&&e==t))))):=
 Q8y
theorem jmq(a b c d e:Int):(!(a==0&&(b==0&&(c==0&&(d==0&&e==0)))))=decide (¬ (a=0/\b=0/\c=0/\d=0/\e=0)):=by
 by_cases h1:a=0<;>by_cases h2:b=0<;>by_cases h3:c=0<;>by_cases h4:d=0<;>by_cases h5:e=0<;>simp[h1,h2,h3,h4,h5]
abbrev jgn(C:Nat->Int)(id boot:Int)(v:Bool)(x y a b d:Int):NSt:=⟨C,id,boot,0,-1,-1,0,max 2 (C 10),v,x,y,a,b,d,Tbl.new (C 1),max 0 (min (C 9) 1000),max 0 (min (C 9) 1000),max 1 (min (C 8) 1000000),0,λ_=>Ses.o⟩
theorem jrt{α:Type}(a:α)(i:Nat):upd (λ_:Nat=>a) i a=λ_=>a:=funext λj=>by unfold upd;split<;>rfl
abbrev nwC(C:Nat->Int)(id boot:Int)(s:Nat×(Rz)):Chunk:=@Chunk.mk (jfb jfo s.1 s.2 λ_=>Ses.o) true 85 [(79,6,.agg #[xd 10,xd 14,xc 0,xc (-1),xc (-1),xc 0]),(15,64,.agg ⟨(List.range 64).map λi=>if i<s.1 then jfd (s.2 i) else .pointer none⟩),(0,15,.agg #[xc (C 0),xc (C 1),xc (C 2),xc (C 3),xc (C 4),xc (C 5),xc (C 6),xc (C 7),xc (C 8),xc (C 9),xc (C 10),xc id,xc boot,xd 2,xd 6])]
theorem Bw{P:Program}{g:FuncId}{vs:List Value}{h:Hp}{slot:Nat}{C:List Nat->Prop}{K:List Nat->Value->Mz->Prop}(hs:List Nat)(R:Value->Mz->Prop)(hC:C hs)(hc:∀h₂:Hp,(∀q∈hs,h₂[q]?=h[q]?)->CallAll P g vs h₂ R)(k:∀v ms,R v ms->(∀q∈ms.map (·.1),q∈hs)/\K hs v ms):N (jiu P g vs h slot C K):=N.mk ⟨hs,R,hC,hc,k⟩
theorem jpd(C:Nat->Int)(id boot:Int)(s:Nat×(Rz))(j:Nat)(hj:j<64):(nwC C id boot s).f (15+j)=if j<s.1 then jfd (s.2 j) else .pointer none:=Q2s
theorem jmr(C:Nat->Int)(id boot:Int)(i:Nat)(g:Rz)(q:Nat×Nat)(hi:i<64){p:Nat}(hp:p=15+i):Writes (@Chunk.mk (jfb jfo (i+1) (upd g i q) (upd (λ_=>Ses.o) i Ses.o)) true 85 (nwC C id boot (i,g)).ps) p 1 (jfd q) (nwC C id boot (i+1,upd g i q)):=by
 subst hp;refine⟨rfl,by show 15+i+1<=85;omega,by show(85,jfb jfo (i+1) (upd g i q) λ_=>Ses.o)=(85,jfb jfo (i+1) (upd g i q) (upd (λ_=>Ses.o) i Ses.o));rw[jrt],jnh (λj hj=>?_) Qav Qav Qav Qav Qav Qav Qav Qav Qav Qav Qav Qav Qav Qav Qav Qav Qav Qav Qav Qav Qav⟩;rw[jpd _ _ _ _ j hj];show _=if _ then _ else (nwC C id boot (i,g)).f (15+j);rw[jpd _ _ _ _ j hj];by_cases e:j=i
 .subst e;rw[if_pos (Nat.lt_succ_self _),if_pos Q9R,show 15+j-(15+j)=0 by omega];show jfd (upd g j q j)=_;rw[upd_at];rfl
 .rw[if_neg (by omega:¬ (15+i<=15+j/\15+j<15+i+1))];by_cases h2:j<i
  .rw[if_pos (by show j<i+1;omega),if_pos h2];show jfd (upd g i q j)=_;rw[qq0 _ _ e]
  .rw[if_neg (by show ¬ j<i+1;omega),if_neg h2]
theorem jms(C:Nat->Int)(id boot:Int)(g:Rz)(s:NSt)(h1:s.C=C)(h2:s.id=id)(h3:s.boot=boot)(h4:s.seq=0)(h5:s.told = -1)(h6:s.asked = -1)(h7:s.bad=0):∀j,j<85->Re1 [(0,18),(1,2),(2,6),(3,10),(4,14)] ((nwC C id boot (64,g)).f j) ((ndC (s.nd g) 1 2 3 4).f j):=by
 obtain⟨C',id',boot',sq,td,ak,bd,_⟩:=s;simp only at h1 h2 h3 h4 h5 h6 h7;subst h1 h2 h3 h4 h5 h6 h7;refine jnh (λj hj=>?_) (.plain rfl) (.plain rfl) (.plain rfl) (.plain rfl) (.plain rfl) (.plain rfl) (.plain rfl) (.plain rfl) (.plain rfl) (.plain rfl) (.plain rfl) (.plain rfl) (.plain rfl) (.ptr rfl) (.ptr rfl) (.ptr rfl) (.ptr rfl) (.plain rfl) (.plain rfl) (.plain rfl) (.plain rfl);have e:∀D f t b m,(ndC D f t b m).f (15+j)=jfd (D.g j):=λD f t b m=>Q2s
 rw[jpd _ _ _ _ j hj,e,if_pos hj];exact .plain rfl
theorem q0p(C:Nat->Int)(id boot:Int)(g:Rz):ChunkLe (nwC C id boot (0,g)) ⟨true,85,[(0,85,.agg ⟨[xc (C 0),xc (C 1),xc (C 2),xc (C 3),xc (C 4),xc (C 5),xc (C 6),xc (C 7),xc (C 8),xc (C 9),xc (C 10),xc id,xc boot,xd 2,xd 6,.pointer none,.pointer none,.pointer none,.pointer none,.pointer none,.pointer none,.pointer none,.pointer none,.pointer none,.pointer none,.pointer none,.pointer none,.pointer none,.pointer none,.pointer none,.pointer none,.pointer none,.pointer none,.pointer none,.pointer none,.pointer none,.pointer none,.pointer none,.pointer none,.pointer none,.pointer none,.pointer none,.pointer none,.pointer none,.pointer none,.pointer none,.pointer none,.pointer none,.pointer none,.pointer none,.pointer none,.pointer none,.pointer none,.pointer none,.pointer none,.pointer none,.pointer none,.pointer none,.pointer none,.pointer none,.pointer none,.pointer none,.pointer none,.pointer none,.pointer none,.pointer none,.pointer none,.pointer none,.pointer none,.pointer none,.pointer none,.pointer none,.pointer none,.pointer none,.pointer none,.pointer none,.pointer none,.pointer none,.pointer none,xd 10,xd 14,xc 0,xc (-1),xc (-1),xc 0]⟩)]⟩:=ChunkLe.mk (λh=>h) (nlr _) (λj hj=>by
 match j,hj with
 | 0,_=>exact rfl
 | 1,_=>exact rfl
 | 2,_=>exact rfl
 | 3,_=>exact rfl
 | 4,_=>exact rfl
 | 5,_=>exact rfl
 | 6,_=>exact rfl
 | 7,_=>exact rfl
 | 8,_=>exact rfl
 | 9,_=>exact rfl
 | 10,_=>exact rfl
 | 11,_=>exact rfl
 | 12,_=>exact rfl
 | 13,_=>exact rfl
 | 14,_=>exact rfl
 | 15,_=>exact rfl
 | 16,_=>exact rfl
 | 17,_=>exact rfl
 | 18,_=>exact rfl
 | 19,_=>exact rfl
 | 20,_=>exact rfl
 | 21,_=>exact rfl
 | 22,_=>exact rfl
 | 23,_=>exact rfl
 | 24,_=>exact rfl
 | 25,_=>exact rfl
 | 26,_=>exact rfl
 | 27,_=>exact rfl
 | 28,_=>exact rfl
 | 29,_=>exact rfl
 | 30,_=>exact rfl
 | 31,_=>exact rfl
 | 32,_=>exact rfl
 | 33,_=>exact rfl
 | 34,_=>exact rfl
 | 35,_=>exact rfl
 | 36,_=>exact rfl
 | 37,_=>exact rfl
 | 38,_=>exact rfl
 | 39,_=>exact rfl
 | 40,_=>exact rfl
 | 41,_=>exact rfl
 | 42,_=>exact rfl
 | 43,_=>exact rfl
 | 44,_=>exact rfl
 | 45,_=>exact rfl
 | 46,_=>exact rfl
 | 47,_=>exact rfl
 | 48,_=>exact rfl
 | 49,_=>exact rfl
 | 50,_=>exact rfl
 | 51,_=>exact rfl
 | 52,_=>exact rfl
 | 53,_=>exact rfl
 | 54,_=>exact rfl
 | 55,_=>exact rfl
 | 56,_=>exact rfl
 | 57,_=>exact rfl
 | 58,_=>exact rfl
 | 59,_=>exact rfl
 | 60,_=>exact rfl
 | 61,_=>exact rfl
 | 62,_=>exact rfl
 | 63,_=>exact rfl
 | 64,_=>exact rfl
 | 65,_=>exact rfl
 | 66,_=>exact rfl
 | 67,_=>exact rfl
 | 68,_=>exact rfl
 | 69,_=>exact rfl
 | 70,_=>exact rfl
 | 71,_=>exact rfl
 | 72,_=>exact rfl
 | 73,_=>exact rfl
 | 74,_=>exact rfl
 | 75,_=>exact rfl
 | 76,_=>exact rfl
 | 77,_=>exact rfl
 | 78,_=>exact rfl
 | 79,_=>exact rfl
 | 80,_=>exact rfl
 | 81,_=>exact rfl
 | 82,_=>exact rfl
 | 83,_=>exact rfl
 | 84,_=>exact rfl
 | k+85,h=>exact absurd (show k+85<85 from h) Q9R
) (qwg _ _ _)
theorem qor(C:Nat->Int)(hC:ji2 C)(id boot:Int)(hid:0<=id/\id<64)(hbo:jf8 boot)(K:Nat)(h:Hp)(hK:h[K]?=some none):
  qae prog 7 [cfV C,xc id,xc boot,elV 0 0 0 0 0] h (xd K) [(K,ndP (jgn C id boot false 0 0 0 0 0))] []:=by
 refine qar (G:=tys) (λ_:Unit=>True) (λ_=>[]) [] [⟨K,18,ndP (jgn C id boot false 0 0 0 0 0)⟩] [cfV C,xc id,xc boot,elV 0 0 0 0 0] tysOK mixed func7 Q9S (call7) xb xb xb xb Q9b Q9f Opens.same ?_
 rintro⟨⟩ -
 repeat' (refine Ba ?_;first|refine Q5P ?_|refine Q7W ?_|refine Q6H ?_|refine Q60 ?_|refine Bf Qb8 ?_|refine Q66 ?_|fail)
 refine Ba ?_
 refine Bo (α:=Nat×(Rz)) (λs=>s.1<=64) (λs=>64-s.1) (λs=>[(54,xc s.1)]) (λs=>[(18,nwC C id boot s)]) (0,λ_=>(0,0)) Q9V ?_ ?_
 .exact Q1x
 rintro⟨i,g⟩ hi
 have hi:i<=64:=hi
 refine Ba ?_
 refine Bj (λhb=>?_) (λhb=>?_)
 .exact Q0j
 .have hb:¬ i<64:=by have:=of_decide_eq_false hb;omega
  repeat' (refine Ba ?_;first|refine Q5P ?_|refine Bb (qzj _ _ _ _ _ _ _ _ _ _ _ _ 2 _ Q9S λh=>(by unfold mayP at h;omega)) ?_|fail)
  exact Q1w
theorem q9b(C:Nat->Int)(hC:ji2 C)(id boot:Int)(hid:0<=id/\id<64)(hbo:jf8 boot)(x y a b d:Int)(hm:mayP x y a b d)(ho:max 2 (C 10)<a+d)(K:Nat)(h:Hp)(hK:h[K]?=some none):
  qae prog 7 [cfV C,xc id,xc boot,elV x y a b d] h (xd K) [(K,ndP (jgn C id boot false 0 0 0 0 0))] []:=by
 refine qar (G:=tys) (λ_:Unit=>True) (λ_=>[]) [] [⟨K,18,ndP (jgn C id boot false 0 0 0 0 0)⟩] [cfV C,xc id,xc boot,elV x y a b d] tysOK mixed func7 Q9S (call7) xb xb xb xb Q9b Q9f Opens.same ?_
 have hz:¬ (x=0/\y=0/\a=0/\b=0/\d=0):=λh=>(by unfold mayP at hm;omega)
 rintro⟨⟩ -
 repeat' (refine Ba ?_;first|refine Q5P ?_|refine Q7W ?_|refine Q6A ?_|refine Q6H ?_|refine Q60 ?_|refine Bf Qb8 ?_|refine Q66 ?_|refine Bg (by rw[jmq,xh];exact hz) ?_|refine Q7v ?_|fail)
 refine Ba ?_
 refine Bo (α:=Nat×(Rz)) (λs=>s.1<=64) (λs=>64-s.1) (λs=>[(54,xc s.1)]) (λs=>[(18,nwC C id boot s)]) (0,λ_=>(0,0)) Q9V ?_ ?_
 .exact Q1x
 rintro⟨i,g⟩ hi
 have hi:i<=64:=hi
 refine Ba ?_
 refine Bj (λhb=>?_) (λhb=>?_)
 .exact Q0j
 .have hb:¬ i<64:=by have:=of_decide_eq_false hb;omega
  repeat' (refine Ba ?_;first|refine Q5P ?_|refine Bb (qzk _ _ _ _ _ _ _ x y a b d 2 _ Q9S hm ho) ?_|fail)
  exact Q1w
theorem qsw(C:Nat->Int)(hC:ji2 C)(id boot:Int)(hid:0<=id/\id<64)(hbo:jf8 boot)(x y a b d:Int)(hm:mayP x y a b d)(ho:¬ max 2 (C 10)<a+d)(K:Nat)(h:Hp)(hK:h[K]?=some none):
  qae prog 7 [cfV C,xc id,xc boot,elV x y a b d] h (xd K) [(K,ndP (jgn C id boot true x y a b d))] []:=by
 refine qar (G:=tys) (λ_:Unit=>True) (λ_=>[]) [] [⟨K,18,ndP (jgn C id boot true x y a b d)⟩] [cfV C,xc id,xc boot,elV x y a b d] tysOK mixed func7 Q9S (call7) xb xb xb xb Q9b Q9f Opens.same ?_
 have hz:¬ (x=0/\y=0/\a=0/\b=0/\d=0):=λh=>(by unfold mayP at hm;omega)
 rintro⟨⟩ -
 repeat' (refine Ba ?_;first|refine Q5P ?_|refine Q7W ?_|refine Q6A ?_|refine Q6H ?_|refine Q60 ?_|refine Bf Qb8 ?_|refine Q66 ?_|refine Bg (by rw[jmq,xh];exact hz) ?_|refine Q7v ?_|fail)
 refine Ba ?_
 refine Bo (α:=Nat×(Rz)) (λs=>s.1<=64) (λs=>64-s.1) (λs=>[(54,xc s.1)]) (λs=>[(18,nwC C id boot s)]) (0,λ_=>(0,0)) Q9V ?_ ?_
 .exact Q1x
 rintro⟨i,g⟩ hi
 have hi:i<=64:=hi
 refine Ba ?_
 refine Bj (λhb=>?_) (λhb=>?_)
 .exact Q0j
 .have hb:¬ i<64:=by have:=of_decide_eq_false hb;omega
  repeat' (refine Ba ?_;first|refine Q5P ?_|refine Bb (qzl _ _ _ _ _ _ _ x y a b d 2 _ Q9S hm ho) ?_|fail)
  refine Ba ?_;obtain rfl:i=64:=by omega
  refine qa2 (jgn C id boot true x y a b d) g 18 2 6 10 14 [] (λl _ hl=>absurd hl Qa2) (λi hi=>absurd hi Qa2) Q9S rfl rfl rfl (jms C id boot g (jgn C id boot true x y a b d) rfl rfl rfl rfl rfl rfl rfl) Q9S rfl rfl re7 Q9S Q9S rfl rfl re2 Q9S rfl rfl re2 Q9S (λk hk=>by cases hk) (λk hk=>by cases hk) Q9L ?_;exact Q1I
abbrev md(a m:Int):Int:=IntKind.i64.wrap ((IntKind.u64.wrap a).tmod m)
theorem jjb(a m:Int)(h0:0<m)(h1:m<=9223372036854775807):0<=md a m/\md a m<m:=jbd a m h0 h1
abbrev cf6(a b c d g f:Int):Nat->Int:=λk=>match k with
 | 0=>1+md a 8
 | 1=>1+md b 6
 | 2=>md c 40
 | 3=>md d 10
 | 4=>1
 | 5=>10
 | 6=>50
 | 7=>30
 | 8=>1+md g 6
 | 9=>1+md f 8
 | _=>1000000000000
theorem qu8(a b c d g f:Int):ji2 (cf6 a b c d g f):=by
 have k0:=jjb a 8 Q9V Q9V;have k1:=jjb b 6 Q9V Q9V;have k2:=jjb c 40 Q9V Q9V;have k3:=jjb d 10 Q9V Q9V;have k4:=jjb g 6 Q9V Q9V;have k5:=jjb f 8 Q9V Q9V;refine⟨?_,?_,?_,?_,rfl,?_,rfl,?_,?_,?_,?_⟩<;>simp only[cf6]<;>omega
theorem q4c(a b c d g f:Int)(w:World):xa 6 #[xc a,xc b,xc c,xc d,xc g,xc f] w (cfV (cf6 a b c d g f)):=by
 have k0:=jjb a 8 Q9V Q9V;have k1:=jjb b 6 Q9V Q9V;have k4:=jjb g 6 Q9V Q9V;have k5:=jjb f 8 Q9V Q9V;refine qac (G:=tys) w tysOK mixed func6 Q9S Q9U Q9T ?_;repeat' (refine Ba ?_;first|refine Q5P ?_|fail)
 all_goals
  simp only[cfV,cf6]
  rw[je5 (1+md a 8) Q9R Q9R,je5 (1+md b 6) Q9R Q9R,je5 (1+md g 6) Q9R Q9R,je5 (1+md f 8) Q9R Q9R]
theorem qjt(a b c d g f:Int)(h:Hp):qae prog 6 [xc a,xc b,xc c,xc d,xc g,xc f] h (cfV (cf6 a b c d g f)) [] []:=qai rfl rfl (call6 _) (q4c a b c d g f)
theorem q0q(w:World):xa 13 #[] w (.bool true):=by
 refine qac (G:=tys) w tysOK mixed func13 Q9S Q9S Q9S ?_;repeat' (refine Ba ?_;first|refine Q5P ?_|refine Q6R ?_|fail)
 refine Ba ?_;refine Bh (jdb (jgn (cf6 3 3 5 1 4 4) 2 7 true 0 0 64 0 64) rfl rfl 0 100 Q9V Q9V Q9V Q9V Q9V Q9V 2 5 _ Q9S Q9S) λv ms hR=>?_
 obtain⟨κ,hκ,rfl,rfl⟩:=hR;repeat' (refine Ba ?_;first|refine Q5P ?_|refine Q6R ?_|fail)
 all_goals rfl
theorem qgz(h:Hp):qae prog 13 [] h (.bool true) [] []:=qai rfl rfl (call13 _) q0q
open Go Go.RowKit Sx
theorem q9c(m:Int)(v:Bool)(x y a b d:Int)(i:Nat)(h:Hp)(hi:h[i]?=some (some (fiC m v x y a b d)))  : qae prog 168 [xd i] h (.tuple #[]) [(i,fiC m false 0 0 0 0 0)] []:=by
 refine qak (G:=tys) [⟨i,_,fiC m v x y a b d,fiC m false 0 0 0 0 0⟩] [] [xd 0] tysOK mixed func168 Q9S (call168) ⟨hi,xb⟩ ⟨Q8t,xb⟩ Q9X xb ⟨.ptr rfl,xb⟩ ?_;exact Q1f
theorem qm8(e:El)(of:Int->El×Int)(more:List El):(qbq e of more).2=0\/qbq e of more=(El.o,3):=by
 unfold qbq;split
 .exact .inr rfl
 .exact .inl rfl
theorem qg0{e f:El}(he:e.may)(hf:f.may):((je7 e f).2=0/\(je7 e f).1.may)\/je7 e f=(El.o,3):=by
 have e0:je7 e f=qbq e (jez e f) [f]:=by unfold je7;rw[if_pos ⟨he,hf⟩]
 rw[e0];rcases qm8 e (jez e f) [f] with h|h
 .refine .inl ⟨h,?_⟩;rcases qh8 (λr=>r.may) (e:=e) (of:=jez e f) (more:=[f]) he (λw g hg=>by
   unfold jez at hg;split at hg
   .exact q0a hg
   .injection hg with _ hg;cases hg) (λx hx=>by simp at hx;subst hx;exact hf) (r:=(qbq e (jez e f) [f]).1) (c:=(qbq e (jez e f) [f]).2) rfl with ⟨_,h2,_⟩|⟨h2,_⟩
  .exact h2
  .omega
 .exact .inr h
theorem qos{e:El}{s:Strip}(he:e.may)(hs:s.may):((jgk e s).2=0/\(jgk e s).1.may)\/jgk e s=(El.o,3):=by
 have e0:jgk e s=qbq e (je0 e s) []:=by unfold jgk;rw[if_pos ⟨he,hs⟩]
 rw[e0];rcases qm8 e (je0 e s) [] with h|h
 .refine .inl ⟨h,?_⟩;rcases qh8 (λr=>r.may) (e:=e) (of:=je0 e s) (more:=[]) he (λw g hg=>by
   unfold je0 at hg;split at hg
   .exact q0a hg
   .injection hg with _ hg;cases hg) (λx hx=>by simp at hx) (r:=(qbq e (je0 e s) []).1) (c:=(qbq e (je0 e s) []).2) rfl with ⟨_,h2,_⟩|⟨h2,_⟩
  .exact h2
  .omega
 .exact .inr h
theorem qrc(e n:El)(lo hi:Int)(he:e.may)(hn:n.may)(hd:jhr lo hi):(jfh e n lo hi).2=0\/(jfh e n lo hi).2=3\/(jfh e n lo hi).2=7:=by
 unfold jfh;rw[if_neg (λh=>h ⟨he,hn,hd⟩)];split
 .exact .inr (.inr rfl)
 split
 .exact .inr (.inl rfl)
 split
 .exact .inl rfl
 .exact .inl rfl
theorem qh9(x y r r':Int)(h:Hp)(e:r'=r)(hw:qa1 4194304 x y)(hr0:1<=r/\r<=4194304):qae prog 14 [.agg #[xc x,xc y],xc r'] h (.tuple #[elE (jff x y r),xc 0]) [] []:=by subst e;exact quq x y r' h hw hr0
theorem qly(x y r r':Int)(h:Hp)(e:r'=r)(hr0:¬ (1<=r/\r<=4194304)):qae prog 14 [.agg #[xc x,xc y],xc r'] h (.tuple #[elE El.o,xc 1]) [] []:=by subst e;exact jb2 x y r' h (λh=>hr0 h.2)
theorem q4d(e n:El)(lo hi:Int)(he:e.may)(hn:n.may)(hd:jhr lo hi)(W:World):xa 173 #[elE e,elE n,xc lo,xc hi] W (.tuple #[elE (qbp e n lo hi).1,xc (qbp e n lo hi).2]):=by
 have hr:=(qlu hn).2.1;have hn2:=hn;have hd2:=hd;unfold El.may mayP at hn2;unfold jhr at hd2;have w6:IntKind.i64.wrap (hi+n.rad)=hi+n.rad:=je5 _ Q9R Q9R;by_cases hb:1<=hi+n.rad/\hi+n.rad<=4194304
 .have hbm:=q81 hn2.1 hb;rcases qg0 he hbm with ⟨hf,hfm⟩|hf
  .have hN:nearF e n hi=((je7 e (jff n.x n.y (hi+n.rad))).1,0):=by unfold nearF;rw[if_pos hb,if_neg Q9R,if_pos hf]
   have hU:qbp e n lo hi=qcb (je7 e (jff n.x n.y (hi+n.rad))).1 n lo hi:=by unfold qbp;rw[if_pos ⟨he,hn,hd⟩,hN,if_neg Qa2]
   rw[hU];rcases qrc (je7 e (jff n.x n.y (hi+n.rad))).1 n lo hi hfm hn hd with hc|hc|hc
   .by_cases hs:(jfh (je7 e (jff n.x n.y (hi+n.rad))).1 n lo hi).1.may
    .rcases qos hfm hs with ⟨hk,_⟩|hk
     .rw[show qcb (je7 e (jff n.x n.y (hi+n.rad))).1 n lo hi=((jgk (je7 e (jff n.x n.y (hi+n.rad))).1 (jfh (je7 e (jff n.x n.y (hi+n.rad))).1 n lo hi).1).1,0) by unfold qcb;rw[if_neg Q9R,if_pos hc,if_neg Q9R,if_pos hk]];refine Q1J ?_;repeat' (first|(refine Ba ?_;first|refine Q5P ?_|refine Q65 ?_|refine Q6z ?_|refine Q6c ?_|refine Q6v ?_|refine Bb (jlh (je7 e (jff n.x n.y (hi+n.rad))).1 (jfh (je7 e (jff n.x n.y (hi+n.rad))).1 n lo hi).1 _ hfm hs) ?_|refine Q7D ?_|fail)|refine qah Q9S ?_)
      all_goals rfl
     .rw[show qcb (je7 e (jff n.x n.y (hi+n.rad))).1 n lo hi=(El.o,3) by unfold qcb;rw[if_neg Q9R,if_pos hc,hk,if_pos rfl]];refine Q1J ?_;repeat' (first|(refine Ba ?_;first|refine Q5P ?_|refine Q65 ?_|refine Q6z ?_|refine Q6c ?_|refine Q6v ?_|refine Bb (q6e (je7 e (jff n.x n.y (hi+n.rad))).1 (jfh (je7 e (jff n.x n.y (hi+n.rad))).1 n lo hi).1 El.o 3 _ hk hfm hs) ?_|refine Q6l ?_|fail)|refine qah Q9S ?_)
      all_goals rfl
    .have hk:jgk (je7 e (jff n.x n.y (hi+n.rad))).1 (jfh (je7 e (jff n.x n.y (hi+n.rad))).1 n lo hi).1=(El.o,1):=by unfold jgk;rw[if_neg (λh=>hs h.2)]
     rw[show qcb (je7 e (jff n.x n.y (hi+n.rad))).1 n lo hi=((je7 e (jff n.x n.y (hi+n.rad))).1,0) by unfold qcb;rw[if_neg Q9R,if_pos hc,hk,if_neg Q9V,if_neg Q9V]];refine Q1J ?_;repeat' (first|(refine Ba ?_;first|refine Q5P ?_|refine Q65 ?_|refine Q6z ?_|refine Q6c ?_|refine Q6v ?_|refine Bb (q6f (je7 e (jff n.x n.y (hi+n.rad))).1 (jfh (je7 e (jff n.x n.y (hi+n.rad))).1 n lo hi).1 _ hfm hs) ?_|refine Q6l ?_|fail)|refine qah Q9S ?_)
     all_goals rfl
   .rw[show qcb (je7 e (jff n.x n.y (hi+n.rad))).1 n lo hi=(El.o,3) by unfold qcb;rw[if_pos hc]];refine Q1J ?_;repeat' (first|(refine Ba ?_;first|refine Q5P ?_|refine Q65 ?_|refine Q6z ?_|refine Q6c ?_|refine Q6v ?_|refine Q6l ?_|fail)|refine qah Q9S ?_)
    all_goals first|rfl|(rw[hc])
   .rw[show qcb (je7 e (jff n.x n.y (hi+n.rad))).1 n lo hi=((je7 e (jff n.x n.y (hi+n.rad))).1,0) by unfold qcb;rw[if_neg Q9R,if_neg Q9R]];refine Q1J ?_;repeat' (first|(refine Ba ?_;first|refine Q5P ?_|refine Q65 ?_|refine Q6z ?_|refine Q6c ?_|refine Q6v ?_|refine Q6l ?_|fail)|refine qah Q9S ?_)
    all_goals rfl
  .have hU:qbp e n lo hi=(El.o,3):=by
    unfold qbp nearF;rw[if_pos ⟨he,hn,hd⟩,if_pos hb,hf];rfl
   rw[hU];refine Q1J ?_;repeat' (first|(refine Ba ?_;first|refine Q5P ?_|refine Q65 ?_|refine Bb (jig n _) ?_|refine Bb (qh9 n.x n.y (hi+n.rad) _ _ w6 hn2.1 hb) ?_|refine Bb (q84 e (jff n.x n.y (hi+n.rad)) El.o 3 _ hf he hbm) ?_|refine Q6c ?_|fail)|refine qah Q9S ?_)
   all_goals rfl
 .have hN:nearF e n hi=(e,0):=by unfold nearF;rw[if_neg hb]
  have hU:qbp e n lo hi=qcb e n lo hi:=by unfold qbp;rw[if_pos ⟨he,hn,hd⟩,hN,if_neg Qa2]
  rw[hU];rcases qrc e n lo hi he hn hd with hc|hc|hc
  .by_cases hs:(jfh e n lo hi).1.may
   .rcases qos he hs with ⟨hk,_⟩|hk
    .rw[show qcb e n lo hi=((jgk e (jfh e n lo hi).1).1,0) by unfold qcb;rw[if_neg Q9R,if_pos hc,if_neg Q9R,if_pos hk]];refine Q1J ?_;repeat' (first|(refine Ba ?_;first|refine Q5P ?_|refine Q65 ?_|refine Q73 ?_|refine Q66 ?_|refine Q7A ?_|refine Bb (jlh e (jfh e n lo hi).1 _ he hs) ?_|refine Q7D ?_|fail)|refine qah Q9S ?_)
     all_goals rfl
    .rw[show qcb e n lo hi=(El.o,3) by unfold qcb;rw[if_neg Q9R,if_pos hc,hk,if_pos rfl]];refine Q1J ?_;repeat' (first|(refine Ba ?_;first|refine Q5P ?_|refine Q65 ?_|refine Q73 ?_|refine Q66 ?_|refine Q7A ?_|refine Bb (q6e e (jfh e n lo hi).1 El.o 3 _ hk he hs) ?_|refine Q6l ?_|fail)|refine qah Q9S ?_)
     all_goals rfl
   .have hk:jgk e (jfh e n lo hi).1=(El.o,1):=by unfold jgk;rw[if_neg (λh=>hs h.2)]
    rw[show qcb e n lo hi=(e,0) by unfold qcb;rw[if_neg Q9R,if_pos hc,hk,if_neg Q9V,if_neg Q9V]];refine Q1J ?_;repeat' (first|(refine Ba ?_;first|refine Q5P ?_|refine Q65 ?_|refine Q73 ?_|refine Q66 ?_|refine Q7A ?_|refine Bb (q6f e (jfh e n lo hi).1 _ he hs) ?_|refine Q6l ?_|fail)|refine qah Q9S ?_)
    all_goals rfl
  .rw[show qcb e n lo hi=(El.o,3) by unfold qcb;rw[if_pos hc]];refine Q1J ?_;repeat' (first|(refine Ba ?_;first|refine Q5P ?_|refine Q65 ?_|refine Q73 ?_|refine Q66 ?_|refine Q7A ?_|refine Q6l ?_|fail)|refine qah Q9S ?_)
   all_goals first|rfl|(rw[hc])
  .rw[show qcb e n lo hi=(e,0) by unfold qcb;rw[if_neg Q9R,if_neg Q9R]];refine Q1J ?_;repeat' (first|(refine Ba ?_;first|refine Q5P ?_|refine Q65 ?_|refine Q73 ?_|refine Q66 ?_|refine Q7A ?_|refine Q6l ?_|fail)|refine qah Q9S ?_)
   all_goals rfl
theorem q9d(e n:El)(lo hi:Int)(h:Hp)(he:e.may)(hn:n.may)(hd:jhr lo hi):qae prog 173 [elE e,elE n,xc lo,xc hi] h (.tuple #[elE (qbp e n lo hi).1,xc (qbp e n lo hi).2]) [] []:=
 qai rfl rfl (call173 _) (q4d e n lo hi he hn hd)
theorem q0r(n:El)(hi:Int)(hn:n.may)(hd:0<=hi/\hi<=4194304)(W:World):xa 174 #[elE n,xc hi] W (.tuple #[elE (qb5 n hi).1,xc (qb5 n hi).2]):=by
 have hr:=(qlu hn).2.1;have hn2:=hn;unfold El.may mayP at hn2;have w6:IntKind.i64.wrap (hi+n.rad)=hi+n.rad:=je5 _ Q9R Q9R;unfold qb5;rw[if_pos ⟨hn,hd⟩];by_cases hb:4194304<hi+n.rad
 .rw[if_pos hb];refine qac (G:=tys) W tysOK mixed func174 Q9S Q9S Q9S ?_;repeat' (first|(refine Ba ?_;first|refine Q5P ?_|refine Q6A ?_|refine Bf (ndF hn) ?_|refine Q60 ?_|refine Bb (jig n _) ?_|refine Bg (by rw[xh,w6];exact hb) ?_)|refine qah Q9S ?_)
  all_goals rfl
 .rw[if_neg hb];refine qac (G:=tys) W tysOK mixed func174 Q9S Q9S Q9S ?_;repeat' (first|(refine Ba ?_;first|refine Q5P ?_|refine Q6A ?_|refine Bf (ndF hn) ?_|refine Q60 ?_|refine Bb (jig n _) ?_|refine Bf (by rw[xm,w6];exact hb) ?_|refine Q6X ?_|refine Bb (qh9 n.x n.y (max 1 (hi+n.rad)) _ _ (by rw[w6]) hn2.1 Q9R) ?_)|refine qah Q9S ?_)
  all_goals rfl
theorem qu9(n:El)(hi:Int)(h:Hp)(hn:n.may)(hd:0<=hi/\hi<=4194304):qae prog 174 [elE n,xc hi] h (.tuple #[elE (qb5 n hi).1,xc (qb5 n hi).2]) [] []:=
 qai rfl rfl (call174 _) (q0r n hi hn hd)
open Go Go.RowKit Sx
theorem neB{a:Int}(h:¬ a=0):(a != 0)=true:=by simpa using h
abbrev fiF(f:Flr):Chunk:=fiC f.most f.valid f.e.x f.e.y f.e.a f.e.b f.e.d
theorem fi_re{f:Flr}:((fiF f).own=true->(fiF f).own=true/\7<=(fiF f).n)/\(fiF f).n<=(fiF f).n/\qbg ix (fiF f) (fiF f):=⟨λ_=>⟨rfl,nlr _⟩,nlr _,re7⟩
def jlw(f:Flr)(e:El):Int:=if e.may then (if f.most<e.tr then 2 else 0) else 1
theorem q0s(f:Flr)(e:El)(i:Nat)(h:Hp)(hi:h[i]?=some (some (fiF f))):qae prog 30 [xd i,elE e] h (xc (jlw f e)) [(i,fiF (f.set e))] []:=by
 unfold jlw Flr.set;by_cases hm:e.may
 .have ht:=trf hm;rw[if_pos hm];by_cases ho:f.most<e.tr
  .rw[if_pos ho,if_neg (λh=>by omega)];exact qzk f.most f.valid f.e.x f.e.y f.e.a f.e.b f.e.d e.x e.y e.a e.b e.d i h hi hm Q9R
  .rw[if_neg ho,if_pos ⟨hm,by omega⟩];exact qzl f.most f.valid f.e.x f.e.y f.e.a f.e.b f.e.d e.x e.y e.a e.b e.d i h hi hm Q9R
 .rw[if_neg hm,if_neg (λh=>hm h.1)];exact qzj f.most f.valid f.e.x f.e.y f.e.a f.e.b f.e.d e.x e.y e.a e.b e.d i h hi hm
theorem q0t(f:Flr)(r:El)(c:Int)(hc:c=0\/c=3\/c=1)(i:Nat)(h:Hp)(hi:h[i]?=some (some (fiF f))):qae prog 143 [xd i,elE r,xc c] h (xc c) [(i,fiF (f.took (r,c)))] []:=by
 rcases hc with rfl|rfl|rfl
 .refine qak (G:=tys) [⟨i,_,fiF f,fiF (f.took (r,0))⟩] [] [xd 0,elE r,xc 0] tysOK mixed func143 Q9S (call143) ⟨hi,xb⟩ ⟨fi_re,xb⟩ Q9X xb Q85 ?_;repeat' (first|(refine Ba ?_;first|refine Q5P ?_|refine Q6c ?_|refine Q66 ?_|refine Q6o ?_|refine Q69 ?_|exact Be|fail)|refine qah Q9S ?_)
 .refine qak (G:=tys) [⟨i,_,fiF f,fiF (f.took (r,3))⟩] [] [xd 0,elE r,xc 3] tysOK mixed func143 Q9S (call143) ⟨hi,xb⟩ ⟨fi_re,xb⟩ Q9X xb Q85 ?_;repeat' (first|(refine Ba ?_;first|refine Q5P ?_|refine Q66 ?_|refine Q6c ?_|refine Bb (q9c f.most f.valid f.e.x f.e.y f.e.a f.e.b f.e.d 0 _ Q9S) ?_|refine Q6o ?_|refine Q69 ?_|exact Be|fail)|refine qah Q9S ?_)
 .refine qak (G:=tys) [⟨i,_,fiF f,fiF (f.took (r,1))⟩] [] [xd 0,elE r,xc 1] tysOK mixed func143 Q9S (call143) ⟨hi,xb⟩ ⟨fi_re,xb⟩ Q9X xb Q85 ?_;repeat' (first|(refine Ba ?_;first|refine Q5P ?_|refine Q66 ?_|refine Q6o ?_|refine Q69 ?_|exact Be|fail)|refine qah Q9S ?_)
theorem qsx(e n:El)(lo hi:Int):(qbp e n lo hi).2=0\/(qbp e n lo hi).2=3\/(qbp e n lo hi).2=1:=by
 unfold qbp;split
 .split
  .exact .inr (.inl rfl)
  .unfold qcb;split
   .exact .inr (.inl rfl)
   .split
    .split
     .exact .inr (.inl rfl)
     .split<;>exact .inl rfl
    .exact .inl rfl
 .exact .inr (.inr rfl)
theorem qwp(e n:El)(lo hi:Int)(he:e.may)(h:(qbp e n lo hi).2=0):(qbp e n lo hi).1.may:=by
 unfold qbp at *;split at h
 .rename_i hm;rw[if_pos hm];have hn:(nearF e n hi).2=3\/(nearF e n hi).1.may:=by
   unfold nearF;split
   .rename_i hb;have hbm:(jff n.x n.y (hi+n.rad)).may:=quz (hm.2.1).1 hb;split
    .exact .inl rfl
    .split
     .rename_i h0;rcases qg0 he hbm with ⟨_,hc⟩|hc
      .exact .inr hc
      .rw[hc] at h0;cases h0
     .exact .inr he
   .exact .inr he
  split at h
  .cases h
  .rename_i h3;rw[if_neg h3];have hN:(nearF e n hi).1.may:=hn.resolve_left h3;generalize (nearF e n hi).1=r at *;unfold qcb at *;split at h
   .cases h
   .rename_i h4;rw[if_neg h4];split at h
    .rename_i h5;rw[if_pos h5];split at h
     .cases h
     .rename_i h6;rw[if_neg h6];split at h
      .rename_i h7;rw[if_pos h7];have hs:(jfh r n lo hi).1.may:=by
        apply Classical.byContradiction;intro hs;have:jgk r (jfh r n lo hi).1=(El.o,1):=by unfold jgk;rw[if_neg (λh=>hs h.2)]
        rw[this] at h7;cases h7
       rcases qos hN hs with ⟨_,hc⟩|hc
       .exact hc
       .rw[hc] at h7;cases h7
      .rename_i h7;rw[if_neg h7];exact hN
    .rename_i h5;rw[if_neg h5];exact hN
 .cases h
def qrd(f:Flr)(n:El)(lo hi:Int):Int:=if f.valid then (qbp f.e n lo hi).2 else if (qb5 n hi).2=0 then jlw f (qb5 n hi).1 else (qb5 n hi).2
def ji3(f:Flr)(e:El):Int:=if f.valid then (je7 f.e e).2 else jlw f e
theorem q4e(f:Flr)(n:El)(lo hi:Int)(he:f.valid=true->f.e.may)(hn:n.may)(hd:jhr lo hi)(i:Nat)(h:Hp)(hi':h[i]?=some (some (fiF f))):qae prog 148 [xd i,elE n,xc lo,xc hi] h (xc (qrd f n lo hi)) [(i,fiF (f.range n lo hi))] []:=by
 rcases qdb f.valid with hv|hv
 .rw[show f.range n lo hi=(if (qb5 n hi).2=0 then f.set (qb5 n hi).1 else f) by unfold Flr.range;rw[hv];rfl,show qrd f n lo hi=(if (qb5 n hi).2=0 then jlw f (qb5 n hi).1 else (qb5 n hi).2) by unfold qrd;rw[hv];rfl];have hd2:0<=hi/\hi<=4194304:=by have h1:=hd.1;have h2:=hd.2.1;have h3:=hd.2.2;omega
  by_cases ha:(qb5 n hi).2=0
  .rw[if_pos ha,if_pos ha];refine qak (G:=tys) [⟨i,_,fiF f,fiF (f.set (qb5 n hi).1)⟩] [] [xd 0,elE n,xc lo,xc hi] tysOK mixed func148 Q9S (call148) ⟨hi',xb⟩ ⟨fi_re,xb⟩ Q9X xb Q8C ?_;repeat' (first|(refine Ba ?_;first|refine Q5P ?_|refine Q66 ?_|refine Bf hv ?_|refine Bb (qu9 n hi _ hn hd2) ?_|refine Bf (by rw[ha];rfl) ?_|refine Bb (q0s f (qb5 n hi).1 0 _ Q9S) ?_|refine Q6o ?_|refine Q69 ?_|exact Be|fail)|refine qah Q9S ?_)
  .rw[if_neg ha,if_neg ha];refine qak (G:=tys) [⟨i,_,fiF f,fiF f⟩] [] [xd 0,elE n,xc lo,xc hi] tysOK mixed func148 Q9S (call148) ⟨hi',xb⟩ ⟨fi_re,xb⟩ Q9X xb Q8C ?_;repeat' (first|(refine Ba ?_;first|refine Q5P ?_|refine Q66 ?_|refine Bf hv ?_|refine Bb (qu9 n hi _ hn hd2) ?_|refine Bg (neB ha) ?_|refine Q6o ?_|refine Q69 ?_|exact Be|fail)|refine qah Q9S ?_)
 .rw[show f.range n lo hi=f.took (qbp f.e n lo hi) by unfold Flr.range;rw[hv];rfl,show qrd f n lo hi=(qbp f.e n lo hi).2 by unfold qrd;rw[hv];rfl];refine qak (G:=tys) [⟨i,_,fiF f,fiF (f.took (qbp f.e n lo hi))⟩] [] [xd 0,elE n,xc lo,xc hi] tysOK mixed func148 Q9S (call148) ⟨hi',xb⟩ ⟨fi_re,xb⟩ Q9X xb Q8C ?_;repeat' (first|(refine Ba ?_;first|refine Q5P ?_|refine Q66 ?_|refine Bg hv ?_|refine Bb (q9d f.e n lo hi _ (he hv) hn hd) ?_|refine Bb (q0t f (qbp f.e n lo hi).1 (qbp f.e n lo hi).2 (qsx _ _ _ _) 0 _ Q9S) ?_|refine Q6o ?_|refine Q69 ?_|exact Be|fail)|refine qah Q9S ?_)
theorem q9e(f:Flr)(e:El)(he:f.valid=true->f.e.may)(hm:e.may)(i:Nat)(h:Hp)(hi:h[i]?=some (some (fiF f))):qae prog 120 [xd i,elE e] h (xc (ji3 f e)) [(i,fiF (f.meet e))] []:=by
 rcases qdb f.valid with hv|hv
 .rw[show f.meet e=f.set e by unfold Flr.meet;rw[hv];rfl,show ji3 f e=jlw f e by unfold ji3;rw[hv];rfl];refine qak (G:=tys) [⟨i,_,fiF f,fiF (f.set e)⟩] [] [xd 0,elE e] tysOK mixed func120 Q9S (call120) ⟨hi,xb⟩ ⟨fi_re,xb⟩ Q9X xb Q83 ?_;repeat' (first|(refine Ba ?_;first|refine Q5P ?_|refine Q66 ?_|refine Bf hv ?_|refine Bb (q0s f e 0 _ Q9S) ?_|refine Q6o ?_|refine Q69 ?_|exact Be|fail)|refine qah Q9S ?_)
 .rw[show f.meet e=f.took (je7 f.e e) by unfold Flr.meet;rw[hv];rfl,show ji3 f e=(je7 f.e e).2 by unfold ji3;rw[hv];rfl];have hc:(je7 f.e e).2=0\/(je7 f.e e).2=3\/(je7 f.e e).2=1:=by
   rcases qg0 (he hv) hm with ⟨h1,_⟩|h1
   .exact .inl h1
   .exact .inr (.inl (by rw[h1]))
  refine qak (G:=tys) [⟨i,_,fiF f,fiF (f.took (je7 f.e e))⟩] [] [xd 0,elE e] tysOK mixed func120 Q9S (call120) ⟨hi,xb⟩ ⟨fi_re,xb⟩ Q9X xb Q83 ?_;repeat' (first|(refine Ba ?_;first|refine Q5P ?_|refine Q66 ?_|refine Bg hv ?_|refine Bb (qi9 f.e e _ (he hv) hm) ?_|refine Bb (q0t f (je7 f.e e).1 (je7 f.e e).2 hc 0 _ Q9S) ?_|refine Q6o ?_|refine Q69 ?_|exact Be|fail)|refine qah Q9S ?_)
theorem nyT{p:Prop}[Decidable p](h:¬ p):(!decide p)=true:=by rw[xf h];rfl
theorem ynT{p:Prop}[Decidable p](h:p):(!decide p)=false:=by rw[xg h];rfl
theorem jru{k:Int}(h:0<k):IntKind.i64.wrap ((4194304:Int).tdiv k)=4194304 / k:=by
 rw[Int.tdiv_eq_ediv_of_nonneg Q9V];have h1:4194304 / k<=4194304:=Int.ediv_le_self _ Q9V;have h2:0<=4194304 / k:=Int.ediv_nonneg Q9V Q9R;exact je5 _ Q9R Q9R
theorem q0u(e:El)(r r':Int)(h:Hp)(hr':r'=r)(he:e.may)(hr:0<=r/\r<=4194304):qae prog 188 [elE e,xc r'] h (.tuple #[elE (qfv e r).1,xc (qfv e r).2]) [] []:=by subst hr';exact q0e e r' h he hr
theorem jdd(e:El)(s k:Int)(he:e.may)(hs:0<=s)(hk:0<=k)(W:World):xa 164 #[elE e,xc s,xc k] W (.tuple #[elE (jg9 e s k).1,xc (jg9 e s k).2]):=by
 unfold jg9;rw[if_pos ⟨he,hs,hk⟩];by_cases h0:0<k
 .have hq:=jru h0;by_cases h1:4194304 / k<s
  .rw[if_pos ⟨h0,h1⟩];refine Q4P ?_;repeat' (first|(refine Ba ?_;first|refine Q5P ?_|refine Q6A ?_|refine Bf (ynT he) ?_|refine Q60 ?_|refine Q64 ?_|refine Bc Q9R ?_|refine Bg (by rw[hq,xh];exact h1) ?_|fail)|refine qah Q9S ?_)
   all_goals rfl
  .rw[if_neg (λh=>h1 h.2)];have hp0:0<=s*k:=yi hs hk;have hp:s*k<=4194304:=(Int.le_ediv_iff_mul_le h0).1 Q9R;have hw:IntKind.i64.wrap (s*k)=s*k:=je5 _ Q9R Q9R;refine Q4P ?_;repeat' (first|(refine Ba ?_;first|refine Q5P ?_|refine Q6A ?_|refine Bf (ynT he) ?_|refine Q60 ?_|refine Q64 ?_|refine Bc Q9R ?_|refine Bf (by rw[hq,xm];exact h1) ?_|refine Bb (q0u e (s*k) _ _ hw he ⟨hp0,hp⟩) ?_|fail)|refine qah Q9S ?_)
   all_goals rfl
 .obtain rfl:k=0:=by omega
  rw[if_neg (λh=>by omega)];have hw:IntKind.i64.wrap (s*0)=s*0:=by rw[Int.mul_zero];rfl
  refine Q4P ?_;repeat' (first|(refine Ba ?_;first|refine Q5P ?_|refine Q6A ?_|refine Bf (ynT he) ?_|refine Q60 ?_|refine Bb (q0u e (s*0) _ _ hw he ⟨by omega,by omega⟩) ?_|fail)|refine qah Q9S ?_)
  all_goals rfl
theorem jpe(e:El)(s k:Int)(h:Hp)(he:e.may)(hs:0<=s)(hk:0<=k):qae prog 164 [elE e,xc s,xc k] h (.tuple #[elE (jg9 e s k).1,xc (jg9 e s k).2]) [] []:=
 qai rfl rfl (call164 _) (jdd e s k he hs hk)
theorem q4f(t:Int)(W:World):xa 163 #[xc t] W (.bool (decide (qbl t))):=by
 by_cases h0:0<=t
 .by_cases h1:t<=1000000
  .rw[xg (show qbl t from⟨h0,h1⟩)];refine Q4Q ?_;repeat' (first|(refine Ba ?_;first|refine Q5P ?_|refine Q60 ?_|refine Q64 ?_|fail)|refine qah Q9S ?_)
   .rw[xg h1]
  .rw[xf (show ¬ qbl t from λh=>h1 h.2)];refine Q4Q ?_;repeat' (first|(refine Ba ?_;first|refine Q5P ?_|refine Q60 ?_|refine Q64 ?_|fail)|refine qah Q9S ?_)
   .rw[xf h1]
 .rw[xf (show ¬ qbl t from λh=>h0 h.1)];refine Q4Q ?_;repeat' (first|(refine Ba ?_;first|refine Q5P ?_|refine Q60 ?_|refine Q64 ?_|fail)|refine qah Q9S ?_)
  all_goals rfl
theorem qe2(t:Int)(h:Hp):qae prog 163 [xc t] h (.bool (decide (qbl t))) [] []:=
 qai rfl rfl (call163 _) (q4f t)
theorem q9f(w now k:Int)(W:World):xa 146 #[xc w,xc now,xc k] W (xc (qfb w now k)):=by
 unfold qfb;by_cases h1:qbl w
 .by_cases h2:qbl now
  .by_cases h3:qbl k
   .rw[if_pos ⟨h1,h2,h3⟩];have a1:=h1.1;have a2:=h1.2;have b1:=h2.1;have b2:=h2.2;have c1:=h3.1;have c2:=h3.2;have e1:IntKind.i64.wrap (now-w)=now-w:=je5 _ Q9R Q9R;have e2:IntKind.i64.wrap (2*k)=2*k:=je5 _ Q9R Q9R;refine qac (G:=tys) W tysOK mixed func146 Q9S Q9S Q9S ?_;repeat' (first|(refine Ba ?_;first|refine Q5P ?_|refine Q6w ?_|refine Q6X ?_|fail)|refine qah Q9S ?_)
    .rw[e1,e2,je5 (max 0 (now-w)+2*k) Q9R Q9R,je5 _ Q9R Q9R]
   .rw[if_neg (λh=>h3 h.2.2)];exact Q0U
  .rw[if_neg (λh=>h2 h.2.1)];exact Q0U
 .rw[if_neg (λh=>h1 h.1)];exact Q0U
theorem q6k(w now k:Int)(h:Hp):qae prog 146 [xc w,xc now,xc k] h (xc (qfb w now k)) [] []:=
 qai rfl rfl (call146 _) (q9f w now k)
theorem qre(w now k:Int):0<=qfb w now k:=by
 unfold qfb;split
 .rename_i h;have:=h.2.2.1;omega
 .exact xY _
theorem q0v(e:El)(w now s k:Int)(W:World):xa 141 #[elE e,xc w,xc now,xc s,xc k] W (.tuple #[elE (qcq e w now s k).1,xc (qcq e w now s k).2]):=by
 unfold qcq;by_cases he:e.may
 .by_cases h1:qbl w
  .by_cases h2:qbl now
   .by_cases h3:qbl k
    .by_cases h4:0<=s
     .by_cases h5:s<=4194304
      .rw[if_pos ⟨he,h1,h2,h3,h4,h5⟩];refine qac (G:=tys) W tysOK mixed func141 Q9S Q9S Q9S ?_;repeat' (first|(refine Ba ?_;first|refine Q5P ?_|refine Q6A ?_|refine Bf (ynT he) ?_|refine Bg (nyT he) ?_|refine Q6w ?_|refine Q60 ?_|refine Q64 ?_|refine Bb (q6k w now k _) ?_|refine Bb (jpe e s (qfb w now k) _ he h4 (qre _ _ _)) ?_|fail)|refine qah Q9S ?_)
       all_goals rfl
      .rw[if_neg (λh=>h5 h.2.2.2.2.2)];exact Q0m
     .rw[if_neg (λh=>h4 h.2.2.2.2.1)];exact Q0m
    .rw[if_neg (λh=>h3 h.2.2.2.1)];exact Q0m
   .rw[if_neg (λh=>h2 h.2.2.1)];exact Q0m
  .rw[if_neg (λh=>h1 h.2.1)];exact Q0m
 .rw[if_neg (λh=>he h.1)];exact Q0m
theorem q4g(e:El)(w now s k:Int)(h:Hp):qae prog 141 [elE e,xc w,xc now,xc s,xc k] h (.tuple #[elE (qcq e w now s k).1,xc (qcq e w now s k).2]) [] []:=
 qai rfl rfl (call141 _) (q0v e w now s k)
theorem q9g(old fresh:El)(ho:old.may)(hf:fresh.may)(W:World):xa 118 #[elE old,elE fresh] W (.tuple #[elE (qi7 old fresh).1,xc (qi7 old fresh).2]):=by
 unfold qi7;rw[if_pos hf];by_cases h0:(je7 old fresh).2=0
 .rw[if_pos h0];refine qac (G:=tys) W tysOK mixed func118 Q9S Q9S Q9S ?_;repeat' (first|(refine Ba ?_;first|refine Q5P ?_|refine Q6A ?_|refine Bf (ynT hf) ?_|refine Bb (qi9 old fresh _ ho hf) ?_|refine Bg (by rw[h0];rfl) ?_|fail)|refine qah Q9S ?_)
  all_goals rfl
 .rw[if_neg h0];refine qac (G:=tys) W tysOK mixed func118 Q9S Q9S Q9S ?_;repeat' (first|(refine Ba ?_;first|refine Q5P ?_|refine Q6A ?_|refine Bf (ynT hf) ?_|refine Bb (qi9 old fresh _ ho hf) ?_|refine Bf (by simpa using h0) ?_|fail)|refine qah Q9S ?_)
  all_goals rfl
theorem jde(old fresh:El)(h:Hp)(ho:old.may)(hf:fresh.may):qae prog 118 [elE old,elE fresh] h (.tuple #[elE (qi7 old fresh).1,xc (qi7 old fresh).2]) [] []:=
 qai rfl rfl (call118 _) (q9g old fresh ho hf)
end Go.Proofs.YtfkngpmgcimdbaaGreat
