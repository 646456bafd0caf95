/-
  Which points an ellipse holds: plain laws of positive semidefinite matrices of two rows.
-/
import Derived.Test.YtfkngpmgcimdbaaGreatM6
set_option linter.unusedVariables false
set_option linter.unusedSimpArgs false
set_option maxRecDepth 100000
set_option maxHeartbeats 20000000
theorem Go.Proofs.ya:type_of% @Int.mul_le_mul_of_nonneg_left:=@Int.mul_le_mul_of_nonneg_left
theorem Go.Proofs.xS:type_of% @Int.mul_le_mul:=@Int.mul_le_mul
theorem Go.Proofs.yp:type_of% @Int.le_refl:=@Int.le_refl
open Go.Proofs.Tryz
namespace Go.Proofs
section
variable {Z Y:Prop}
theorem Q06(h:Z:=by
 refine qal (G:=tys) [⟨a,_,seC true 2 1 s,seC true k m (s.ask (fuseW e f) w)⟩,⟨m,_,bC s.emp,bC (s.ask (fuseW e f) w).emp⟩,⟨k,_,jkj false 3 4,⟨false,0,[]⟩⟩,⟨i,_,elC false e,⟨false,0,[]⟩⟩,⟨j,_,elC false f,⟨false,0,[]⟩⟩] [] [xd 0,xc w] tysOK mixed func207 Q8I (call207) ⟨ha,hm,hk,hi,hj,xb⟩ ⟨Q8w,b_re (nlr _) _,Q6U,el_re _,el_re _,xb⟩ Q9F xb Q6E ?_
 repeat' (first|(refine Bb ?_;first|with_reducible (first|refine Ba Q8H ?_|refine Ba (qab _ _ _) ?_|refine Ba (qaa _ _) ?_|refine Bk ?_|refine Ba rfl ?_|refine Ba ⟨by kernel_rfl,by kernel_rfl⟩ ?_|refine Bj ?_|refine Bh ?_|refine Bi ?_)|refine Bc (cQF e f w s.emp hw he hf 2 1 3 4 Q8H _ _ _ _ Q8I Q8I Q8I Q8I) ?_|refine Bf h1 ?_|refine Be h1 ?_|refine Bf Q9R ?_|refine Be Q9R ?_|refine Bf (by rw[xh];assumption) ?_|refine Be (by rw[xk];assumption) ?_|refine Bf (by rw[yj];assumption) ?_|refine Be (by rw[beq_eq_false_iff_ne];assumption) ?_|refine Ba (.plain Q8I) ?_|refine Ba Q7m ?_|refine Ba xb ?_|exact Bg|fail)|refine qah Q8I ?_)):Z:=h
theorem Q08(h:Z:=by
 intro l n hok;have hn6:n<=6:=by omega
 have gw:=qdr (fuseW e f) b n hn6;have gx:=jg6 (fuseW e f) b n hn6;rcases hok with ⟨rfl,hn⟩|⟨rfl,hn,hmost⟩
 ·refine⟨_,rfl,?_⟩;by_cases h6:n=6
  ·subst h6;have e2:(GL.go (fuseW e f) b 6).b-(GL.go (fuseW e f) b 6).a=2:=by have:=gw.1;simp only[gwide] at this;omega
   exact Q1H
  ·have hn5:n<6:=by omega
   have gw1:=qdr (fuseW e f) b (n+1) Q8G;have gx1:=jg6 (fuseW e f) b (n+1) Q8G;have hwid:2<(GL.go (fuseW e f) b n).b-(GL.go (fuseW e f) b n).a:=by have:=gw.1;have:=qkh n hn5;omega
   have w1:IntKind.i64.wrap (IntKind.i64.wrap ((GL.go (fuseW e f) b n).a+(GL.go (fuseW e f) b n).y)-(GL.go (fuseW e f) b n).x)=(GL.go (fuseW e f) b n).a+(GL.go (fuseW e f) b n).y-(GL.go (fuseW e f) b n).x:=by rw[jdx ((GL.go (fuseW e f) b n).a+(GL.go (fuseW e f) b n).y) Q8G Q8G,jdx _ Q8G Q8G]
   rcases qcv ((GL.go (fuseW e f) b n).fx.most (GL.go (fuseW e f) b n).fy) with hm|hm
   ·exact Q1k
   ·have st:(GL.go (fuseW e f) b (n+1))=(GL.go (fuseW e f) b n).left (fuseW e f):=by show GL.step _ _=_;unfold GL.step;rw[if_pos hm]
    by_cases heq:(GL.go (fuseW e f) b n).a+(GL.go (fuseW e f) b n).y-(GL.go (fuseW e f) b n).x=(GL.go (fuseW e f) b n).x
    ·have st2:(GL.go (fuseW e f) b (n+1))=⟨(GL.go (fuseW e f) b n).a,(GL.go (fuseW e f) b n).y,(GL.go (fuseW e f) b n).a+(GL.go (fuseW e f) b n).y-(GL.go (fuseW e f) b n).x,(GL.go (fuseW e f) b n).x,(GL.go (fuseW e f) b n).fx,(GL.go (fuseW e f) b n).fx,(GL.go (fuseW e f) b n).s⟩:=by rw[st];unfold GL.left;rw[if_pos heq]
     exact Q1W
    ·have st2:(GL.go (fuseW e f) b (n+1))=⟨(GL.go (fuseW e f) b n).a,(GL.go (fuseW e f) b n).y,(GL.go (fuseW e f) b n).a+(GL.go (fuseW e f) b n).y-(GL.go (fuseW e f) b n).x,(GL.go (fuseW e f) b n).x,jep (fuseW e f) ((GL.go (fuseW e f) b n).a+(GL.go (fuseW e f) b n).y-(GL.go (fuseW e f) b n).x),(GL.go (fuseW e f) b n).fx,(GL.go (fuseW e f) b n).s.ask (fuseW e f) ((GL.go (fuseW e f) b n).a+(GL.go (fuseW e f) b n).y-(GL.go (fuseW e f) b n).x)⟩:=by rw[st];unfold GL.left;rw[if_neg heq]
     have hr:0<=(GL.go (fuseW e f) b n).a+(GL.go (fuseW e f) b n).y-(GL.go (fuseW e f) b n).x/\(GL.go (fuseW e f) b n).a+(GL.go (fuseW e f) b n).y-(GL.go (fuseW e f) b n).x<=34:=by have:=gx1.1;rw[st2] at this;exact this
     repeat' (first|(refine Bb ?_;first|with_reducible (first|refine Ba Q8H ?_|refine Ba (qab _ _ _) ?_|refine Ba (qaa _ _) ?_|refine Bk ?_|refine Ba rfl ?_|refine Ba ⟨by kernel_rfl,by kernel_rfl⟩ ?_|refine Bj ?_|refine Bh ?_|refine Bi ?_)|refine Be Q9l ?_|refine Bc (jhp _ _ _) ?_|refine Be (by rw[hm];rfl) ?_|refine Bf Q9Q ?_|refine Bc (qrb e f ((GL.go (fuseW e f) b n).a+(GL.go (fuseW e f) b n).y-(GL.go (fuseW e f) b n).x) _ (GL.go (fuseW e f) b n).s w1 hr he hf 4 1 0 2 3 Q8H _ _ _ _ Q8I Q8I Q8I Q8I Q8I) ?_)|refine qah Q8I ?_)
     exact Q1Y
 ·refine⟨_,rfl,?_⟩;have gw1:=qdr (fuseW e f) b (n+1) Q8G;have gx1:=jg6 (fuseW e f) b (n+1) Q8G;have w1:IntKind.i64.wrap (IntKind.i64.wrap ((GL.go (fuseW e f) b n).x+(GL.go (fuseW e f) b n).b)-(GL.go (fuseW e f) b n).y)=(GL.go (fuseW e f) b n).x+(GL.go (fuseW e f) b n).b-(GL.go (fuseW e f) b n).y:=by rw[jdx ((GL.go (fuseW e f) b n).x+(GL.go (fuseW e f) b n).b) Q8G Q8G,jdx _ Q8G Q8G]
  have st:(GL.go (fuseW e f) b (n+1))=(GL.go (fuseW e f) b n).right (fuseW e f):=by show GL.step _ _=_;unfold GL.step;rw[if_neg (by rw[hmost];decide)]
  by_cases heq:(GL.go (fuseW e f) b n).x+(GL.go (fuseW e f) b n).b-(GL.go (fuseW e f) b n).y=(GL.go (fuseW e f) b n).y
  ·have st2:(GL.go (fuseW e f) b (n+1))=⟨(GL.go (fuseW e f) b n).x,(GL.go (fuseW e f) b n).b,(GL.go (fuseW e f) b n).y,(GL.go (fuseW e f) b n).x+(GL.go (fuseW e f) b n).b-(GL.go (fuseW e f) b n).y,(GL.go (fuseW e f) b n).fy,(GL.go (fuseW e f) b n).fy,(GL.go (fuseW e f) b n).s⟩:=by rw[st];unfold GL.right;rw[if_pos heq]
   exact Q1X
  ·have st2:(GL.go (fuseW e f) b (n+1))=⟨(GL.go (fuseW e f) b n).x,(GL.go (fuseW e f) b n).b,(GL.go (fuseW e f) b n).y,(GL.go (fuseW e f) b n).x+(GL.go (fuseW e f) b n).b-(GL.go (fuseW e f) b n).y,(GL.go (fuseW e f) b n).fy,jep (fuseW e f) ((GL.go (fuseW e f) b n).x+(GL.go (fuseW e f) b n).b-(GL.go (fuseW e f) b n).y),(GL.go (fuseW e f) b n).s.ask (fuseW e f) ((GL.go (fuseW e f) b n).x+(GL.go (fuseW e f) b n).b-(GL.go (fuseW e f) b n).y)⟩:=by rw[st];unfold GL.right;rw[if_neg heq]
   have hr:0<=(GL.go (fuseW e f) b n).x+(GL.go (fuseW e f) b n).b-(GL.go (fuseW e f) b n).y/\(GL.go (fuseW e f) b n).x+(GL.go (fuseW e f) b n).b-(GL.go (fuseW e f) b n).y<=34:=by have:=gx1.2.1;rw[st2] at this;exact this
   repeat' (first|(refine Bb ?_;first|with_reducible (first|refine Ba Q8H ?_|refine Ba (qab _ _ _) ?_|refine Ba (qaa _ _) ?_|refine Bk ?_|refine Ba rfl ?_|refine Ba ⟨by kernel_rfl,by kernel_rfl⟩ ?_|refine Bj ?_|refine Bh ?_|refine Bi ?_)|refine Bf Q9Q ?_|refine Bc (qrb e f ((GL.go (fuseW e f) b n).x+(GL.go (fuseW e f) b n).b-(GL.go (fuseW e f) b n).y) _ (GL.go (fuseW e f) b n).s w1 hr he hf 4 1 0 2 3 Q8H _ _ _ _ Q8I Q8I Q8I Q8I Q8I) ?_)|refine qah Q8I ?_)
   exact Q1Z):Z:=h
theorem Q0g(h:Z:=by
 rw[st,hO,hls];repeat' (refine Bb ?_;first|exact Bg|refine Q5U ?_|refine Q5i ?_|refine Ba (reI Q9t) ?_|refine Ba jog ?_|refine Ba jh9 ?_|refine Ba jls ?_|refine Q5H ?_|fail)):Z:=h
theorem Q0p(k:Y)(h:Wr Y->Z:=by
 intro kQ;repeat' (refine Bb ?_;first|refine Q55 ?_|refine Q5p ?_|refine Q6q ?_|refine Be (by rw[xk];exact hless) ?_|fail)
 refine Bb ?_;exact kQ.o):Z:=h ⟨k⟩
theorem Q0r(k:Y)(h:Wr Y->Z:=by
 intro kQ;repeat' (refine Bb ?_;first|refine Q55 ?_|refine Q5p ?_|refine Q6q ?_|refine Bf (by rw[xh];exact hless) ?_|fail)
 refine Bb ?_;exact kQ.o):Z:=h ⟨k⟩
theorem Q0F(h:Z:=by repeat' (refine Bb ?_;first|refine Q55 ?_|refine Q5d ?_|refine Q5r ?_|refine Ba xb ?_|exact Bg|fail)):Z:=h
theorem Q0V(h:Z:=by repeat' (refine Bb ?_;first|exact Bg|refine Q5U ?_|refine Q5i ?_|refine Ba (ji3 le1) ?_|refine Ba jh9 ?_|refine Ba jls ?_|refine Q5H ?_|fail)):Z:=h
theorem Q17(h:Z:=by
 rw[st2];repeat (refine Bb ?_;first|exact Bg|with_reducible (first|refine Ba rfl ?_|refine Ba (ChunkLe.refl _) ?_)|refine Ba (qa2 w1) ?_|refine Ba (ChunkLe.of Q8I) ?_)):Z:=h
theorem Q1k(h:Z:=by
 repeat' (first|(refine Bb ?_;first|with_reducible (first|refine Ba Q8H ?_|refine Ba (qab _ _ _) ?_|refine Ba (qaa _ _) ?_|refine Bk ?_|refine Ba rfl ?_|refine Ba ⟨by kernel_rfl,by kernel_rfl⟩ ?_|refine Bj ?_|refine Bh ?_|refine Bi ?_)|refine Be Q9l ?_|refine Bc (jhp _ _ _) ?_|refine Bf (by rw[hm];rfl) ?_)|refine qah Q8I ?_)
 refine Bb ?_;refine N.next n ⟨.inr ⟨rfl,hn5,hm⟩,by show(if 1=0 then _ else _)<(if 0=0 then _ else _);simp⟩ ?_;exact Q3U):Z:=h
theorem Q1u(h:Z:=by
 have two:Bd (2:Int) 1:=Bd.og (n:=2) Q8H;exact Bd.add 545 ((Bd.sub 217 hi.Den hi.Z).mul dB) (Bd.add 544 (Bd.add 543 (bD.mul (bU.mul bU)) (bA.mul (bV.mul bV))) (two.mul (bB.mul (bU.mul bV))).neg)):Z:=h
theorem Q1D(h:Z:=by repeat (refine Bb ?_;first|exact Bg|with_reducible (first|refine Ba rfl ?_|refine Ba (ChunkLe.refl _) ?_)|refine Ba (ChunkLe.of Q8I) ?_|refine Ba (qa2 Q8I) ?_)):Z:=h
theorem Q1H(h:Z:=by repeat' (first|(refine Bb ?_;first|with_reducible (first|refine Ba Q8H ?_|refine Ba (qab _ _ _) ?_|refine Ba (qaa _ _) ?_|refine Bk ?_|refine Ba rfl ?_|refine Ba ⟨by kernel_rfl,by kernel_rfl⟩ ?_|refine Bj ?_|refine Bh ?_|refine Bi ?_)|refine Bf (by rw[xh,jdx _ Q8G Q8G];omega) ?_|refine Ba (.plain rfl) ?_|refine Ba Q74 ?_|refine Ba xb ?_|exact Bg|fail)|refine qah Q8I ?_)):Z:=h
theorem Q1W(h:Z:=by
 repeat' (first|(refine Bb ?_;first|with_reducible (first|refine Ba Q8H ?_|refine Ba (qab _ _ _) ?_|refine Ba (qaa _ _) ?_|refine Bk ?_|refine Ba rfl ?_|refine Ba ⟨by kernel_rfl,by kernel_rfl⟩ ?_|refine Bj ?_|refine Bh ?_|refine Bi ?_)|refine Be Q9l ?_|refine Bc (jhp _ _ _) ?_|refine Be (by rw[hm];rfl) ?_|refine Be (by rw[w1,heq];simp) ?_)|refine qah Q8I ?_)
 exact Q3J):Z:=h
theorem Q1X(h:Z:=by
 repeat' (first|(refine Bb ?_;first|with_reducible (first|refine Ba Q8H ?_|refine Ba (qab _ _ _) ?_|refine Ba (qaa _ _) ?_|refine Bk ?_|refine Ba rfl ?_|refine Ba ⟨by kernel_rfl,by kernel_rfl⟩ ?_|refine Bj ?_|refine Bh ?_|refine Bi ?_)|refine Be (by rw[w1,heq];simp) ?_)|refine qah Q8I ?_)
 exact Q3K):Z:=h
theorem Q1Y(h:Z:=by exact Q3J):Z:=h
theorem Q1Z(h:Z:=by exact Q3K):Z:=h
theorem Q24(h:Z:=by
 rw[hF];repeat' (first|(refine Bb ?_;first|with_reducible (first|refine Ba Q8H ?_|refine Ba (qab _ _ _) ?_|refine Ba (qaa _ _) ?_|refine Bk ?_|refine Ba rfl ?_|refine Ba ⟨by kernel_rfl,by kernel_rfl⟩ ?_|refine Bj ?_|refine Bh ?_|refine Bi ?_)|refine Bf hem ?_|refine Ba (.plain rfl) ?_|refine Ba xb ?_|exact Bg|fail)|refine qah Q8I ?_)):Z:=h
theorem Q27(k:Y)(h:Wr Y->Z:=by
 intro kQ;refine qac (G:=tys) W tysOK mixed func213 Q8I (by simp[qba]) Q8I ?_;exact kQ.o):Z:=h ⟨k⟩
theorem Q2H(h:Z:=by exact⟨by decide,fun g h=>by injection h with _ h;cases h⟩):Z:=h
theorem Q30(h:Z:=by
 refine Br (α:=Nat) (k+1) [(0,0),(1,1),(2,2),(3,3),(4,4),(5,5),(6,6),(7,7),(12,12),(13,13),(14,14),(15,15),(16,16)] ⟨by show k+1<=3;omega,by show 3-(k+1)<3-k;omega⟩ ?_;exact Q0g):Z:=h
theorem Q3a(h:Z:=by
 refine Br (α:=Nat) (k+1) [(0,0),(1,1),(2,2),(3,3),(4,4),(5,5),(6,6),(7,7),(12,12),(13,13),(14,14),(15,15)] ⟨by show k+1<=3;omega,by show 3-(k+1)<3-k;omega⟩ ?_;exact Q0g):Z:=h
theorem Q3o(h:Z:=by
 refine Br (α:=Nat) (k+1) [(0,0),(1,1),(2,2),(3,3),(4,4),(5,5),(6,6),(7,7),(8,8),(9,9)] ⟨by show k+1<=2;omega,by show 2-(k+1)<2-k;omega⟩ ?_;exact Q0g):Z:=h
theorem Q3s(h:Z:=by
 ·obtain rfl:k=3:=by omega
  rw[show((([e]++[X])++[f]).take 3).foldl lesser e=(([e]++[X])++[f]).foldl lesser e from qi1 (([e]++[X])++[f]) e];exact Q0F):Z:=h
theorem Q3I(h:Z:=by
 rw[List.take_add_one,xr h,Option.toList_some,List.foldl_append,xD,xr h];rfl):Z:=h
theorem Q3J(h:Z:=by
 refine Bb ?_;refine N.next (n+1) ⟨.inl ⟨rfl,by omega⟩,by show(if 0=0 then _ else _)<(if 0=0 then _ else _);simp;omega⟩ ?_;exact Q17):Z:=h
theorem Q3K(h:Z:=by
 refine Bb ?_;refine N.next (n+1) ⟨.inl ⟨rfl,by omega⟩,by show(if 0=0 then _ else _)<(if 1=0 then _ else _);simp;omega⟩ ?_;exact Q17):Z:=h
theorem Q5i(k:Y)(h:Wr Y->Z:=by intro kQ;(first|refine Ba (.plain Q8I) ?_|refine Ba (.one (.ptr rfl)) ?_|refine Ba (.one (.slice rfl)) ?_|fail);exact kQ.o):Z:=h ⟨k⟩
theorem Q5t(k:Y)(h:Wr Y->Z:=by intro kQ;(first|refine Bc (jd6 _ _ _ _ _ _) ?_|refine Bc (qsp _ _ _ _ _ _) ?_|refine Be Qa6 ?_|refine Be (by rw[xi hf];rfl) ?_|refine Bc (quu (usq (trP ex ey ea eb ed).toNat) (usq (trP fx fy fa fb fd).toNat) ea fa 0 hs ht Q8G Q8G 11 12 13 _ Q8I Q8I Q8I Q8H) ?_|refine Bc (quu (usq (trP ex ey ea eb ed).toNat) (usq (trP fx fy fa fb fd).toNat) ed fd _ hs ht Q8G Q8G 11 12 13 _ Q8I Q8I Q8I Q8H) ?_|refine Bc (q58 (usq (trP ex ey ea eb ed).toNat) (usq (trP fx fy fa fb fd).toNat) eb fb _ hs ht Q8G Q8G 11 12 13 _ Q8I Q8I Q8I Q8H) ?_|refine Be (neF hb) ?_|fail);exact kQ.o):Z:=h ⟨k⟩
theorem Q5H(k:Y)(h:Wr Y->Z:=by intro kQ;(first|refine Ba jqp ?_|refine Ba (jh9 (e:=El.o)) ?_|refine Ba ⟨id,nlr _,g1 (.func xb ⟨.ptr rfl,.ptr rfl,xb⟩)⟩ ?_|fail);exact kQ.o):Z:=h ⟨k⟩
theorem Q5U(k:Y)(h:Wr Y->Z:=by intro kQ;(first|with_reducible refine Ba rfl ?_|refine Ba (.one (.func xb ⟨.ptr rfl,.ptr rfl,xb⟩)) ?_|fail);exact kQ.o):Z:=h ⟨k⟩
theorem Q6q(k:Y)(h:Wr Y->Z:=by intro kQ;(first|refine Bm k 1 rfl Q8G ?_|refine Bn _ (jof (j:=k) Q8G rfl rfl) ?_|refine Bc (qd1 _ _ _ _ _ _) ?_|fail);exact kQ.o):Z:=h ⟨k⟩
theorem Q6I(h:Z:=by first|exact qj0 i.d i.x i.y i.level (i.d*i.d) (i.level*i.D) (i.level*i.A) (-(i.level*i.B)) 74 _ _ Q8I|fail):Z:=h
theorem Q6U(h:Z:=by first|exact ⟨fun h=>Q95,nlr _,g1 (.func xb ⟨.ptr rfl,.ptr rfl,xb⟩)⟩|fail):Z:=h
theorem Q6V(h:Z:=by first|exact .func xb ⟨.ptr rfl,.ptr rfl,xb⟩|fail):Z:=h
theorem Q74(h:Z:=by first|exact ⟨⟨_,rfl,id,nlr _,g1 (.plain rfl)⟩,xb⟩|fail):Z:=h
theorem Q75(h:Z:=by first|exact jps (-(i.level*i.B)) (i.d*i.d) 0 (-(i.level*i.B) / (i.d*i.d)) 0 75 _ rB.neg.top sP sB.top z5 b5 Q8I|fail):Z:=h
theorem Q79(h:Z:=by first|exact jmp (i.level*i.D) (i.d*i.d) 0 (jdv (i.level*i.D) (i.d*i.d)) 0 75 _ pB.top sP sB.top z3 b3 Q8I|fail):Z:=h
theorem Q7b(h:Z:=by first|exact jmp (i.level*i.A) (i.d*i.d) 0 (jdv (i.level*i.A) (i.d*i.d)) 0 75 _ qB.top sP sB.top z4 b4 Q8I|fail):Z:=h
theorem Q7f(h:Z:=by first|exact jmo i.y i.d 0 (jdy i.y i.d) 0 75 _ yB.top y2.top y3.top hd dB.top d2.top z2 b2 Q8I|fail):Z:=h
theorem Q7g(h:Z:=by first|exact jmo i.x i.d 0 (jdy i.x i.d) 0 75 _ xB.top x2.top x3.top hd dB.top d2.top z1 b1 Q8I|fail):Z:=h
theorem Q7m(h:Z:=by first|exact ⟨⟨_,rfl,id,nlr _,g4 Q6V (by first|exact .plain rfl|exact jqo (by rw[hs'])|(rw[hs'];exact .plain rfl)) (by rw[hs'];exact .plain rfl) (by rw[hs'];exact .plain rfl)⟩,⟨_,rfl,id,nlr _,g1 (by rw[hemp];exact .plain rfl)⟩,xb⟩|fail):Z:=h
theorem Q7v(h:Z:=by first|exact ⟨fun h=>⟨rfl,nlr _⟩,nlr _,g1 (.plain rfl)⟩|fail):Z:=h
theorem Q7M(h:Z:=by first|exact ⟨fun h=>Q95,nlr _,g1 (.plain rfl)⟩|fail):Z:=h
theorem Q7W(h:Z:=by first|exact ⟨.plain rfl,.plain (qad _),.plain (qad _),.ptr rfl,xb⟩|fail):Z:=h
theorem Q7X(h:Z:=by first|exact ⟨.plain rfl,.ptr rfl,.ptr rfl,xb⟩|fail):Z:=h
theorem Q8q(h:Z:=by first|exact .inr ⟨rfl,by decide,by have:=hb;simp only[zp] at this;exact this⟩|fail):Z:=h
theorem Q8s(h:Z:=by first|exact ⟨rfl,rfl,rfl,fun w=>by go_simp;by_cases h1:a=c<;>by_cases h2:b=d<;>simp[h1,h2]⟩|fail):Z:=h
theorem Q8w(h:Z:=by first|exact ⟨fun h=>⟨rfl,nlr _⟩,nlr _,g4 Q6V (.plain rfl) (.plain rfl) (.plain rfl)⟩|fail):Z:=h
theorem Q8F(h:Z:=by first|exact ⟨.plain rfl,.plain rfl,.plain rfl,.ptr rfl,.ptr rfl,.ptr rfl,xb⟩|fail):Z:=h
theorem Q9a(h:Z:=by rw[xk,qi0];omega):Z:=h
theorem Q9f(h:Z:=by rw[xk,qjn];omega):Z:=h
theorem Q9l(h:Z:=by rw[xk,jdx _ Q8G Q8G];omega):Z:=h
theorem Q9p(h:Z:=by simp[Apart,hij]):Z:=h
theorem Q9E(h:Z:=by simp[qan,qba];rfl):Z:=h
theorem Q9F(h:Z:=by simp[Apart];omega):Z:=h
theorem Q9Q(h:Z:=by rw[w1];simpa using heq):Z:=h
theorem Q9R(h:Z:=by rw[h2];rfl):Z:=h
theorem Qa3(h:Z:=by have:=hb;simp only[zC] at this;exact this):Z:=h
theorem Qa6(h:Z:=by rw[xi he];rfl):Z:=h
theorem Qad(h:Z:=by rcases Int.mul_eq_zero.1 h with h|h<;>exact h):Z:=h
theorem Qah(h:Z:=by rw[Int.neg_mul_neg,Int.neg_mul_neg];exact h2):Z:=h
end
end Go.Proofs

namespace Go.Proofs.YtfkngpmgcimdbaaGreat
open Go Go.RowKit Sx
structure Inf where
 A:Int
 B:Int
 D:Int
 U:Int
 V:Int
 Z:Int
 Den:Int
def Inf.d (i:Inf):Int:=i.A*i.D-i.B*i.B
def Inf.x (i:Inf):Int:=i.D*i.U-i.B*i.V
def Inf.y (i:Inf):Int:=i.A*i.V-i.B*i.U
theorem jea (z:Int):0<=z*z:=by
 rcases Int.le_total 0 z with h|h
 ·exact xy h h
 ·exact Int.mul_nonneg_of_nonpos_of_nonpos h h
variable {z:Int}
theorem q8o (h:z*z<=0):z=0:=by
 have h1:=jea z;have h2:z*z=0:=by omega
 rcases Int.mul_eq_zero.1 h2 with h|h<;>exact h
variable {a:Int}
theorem qiz {q:Int} (ha:0<a) (h:0<=a*q):0<=q:=by
 refine Int.not_lt.1 fun hq=>?_
 have:=Int.mul_neg_of_pos_of_neg ha hq;omega
variable {b d:Int}
theorem qlm (h:jhm a b d) (s t:Int):0<=a*(s*s)+2*(b*(s*t))+d*(t*t):=by
 obtain⟨ha,hd,hdet⟩:=h;by_cases h0:a=0
 ·subst h0;have hb:b=0:=q8o Q8G;subst hb;have:=xy hd (jea t);omega
 ·refine qiz (a:=a) Q8G ?_;have e:a*(a*(s*s)+2*(b*(s*t))+d*(t*t))=(a*s+b*t)*(a*s+b*t)+(a*d-b*b)*(t*t):=by grind
  rw[e];have h1:=jea (a*s+b*t);have h2:=xy hdet (jea t);omega
theorem qss (h:∀ s t:Int,0<=a*(s*s)+2*(b*(s*t))+d*(t*t)):jhm a b d:=by
 have ha:0<=a:=by have:=h 1 0;omega
 have hd:0<=d:=by have:=h 0 1;omega
 refine⟨ha,hd,?_⟩;by_cases h0:a=0
 ·subst h0;have hb:b=0:=by
   refine Decidable.byContradiction fun hb=>?_
   have h1:=h (-(b*(d+1))) 1;have e:0*(-(b*(d+1)) * -(b*(d+1)))+2*(b*(-(b*(d+1))*1))+d*(1*1)=d-2*((b*b)*(d+1)):=by grind
   rw[e] at h1;have h2:1<=b*b:=by
    have:=jea b;have:b*b≠0:=fun h=>hb Qad
    omega
   have h3:=Int.mul_le_mul_of_nonneg_right h2 (by omega:0<=d+1);omega
  subst hb;omega
 ·refine qiz (a:=a) Q8G ?_;have:=h b (-a);have e:a*(b*b)+2*(b*(b * -a))+d*(-a * -a)=a*(a*d-b*b):=by grind
  rwa[e] at this
variable {x y:Int}
theorem holds_iff:qfq a b d x y↔∀ s t:Int,(x*s+y*t)*(x*s+y*t)<=a*(s*s)+2*(b*(s*t))+d*(t*t):=by
 have e:∀ s t:Int,(a-x*x)*(s*s)+2*((b-x*y)*(s*t))+(d-y*y)*(t*t)=(a*(s*s)+2*(b*(s*t))+d*(t*t))-(x*s+y*t)*(x*s+y*t):=fun s t=>by grind
 constructor
 ·intro h s t;have:=qlm h s t;rw[e] at this;omega
 ·intro h;refine qss fun s t=>?_
  rw[e];have:=h s t;omega
theorem qgq {m:Int} (hm:0<=m) (h:z*z<=m*m):z<=m/\-z<=m:=by
 constructor
 ·refine Int.not_lt.1 fun hz=>?_
  have h1:=ya (yd hz) hm;have h2:=Int.mul_lt_mul_of_pos_right hz (by omega:0<z);omega
 ·refine Int.not_lt.1 fun hz=>?_
  have h1:=ya (yd hz) hm;have h3:=Int.mul_lt_mul_of_pos_right hz (by omega:0 < -z);have h2 : -z * -z=z*z:=by grind
  omega
def Inf.val (i:Inf) (X Y:Int):Int:=i.A*(X*X)+2*(i.B*(X*Y))+i.D*(Y*Y)-2*(i.U*X+i.V*Y)+i.Z
def Inf.holds (i:Inf) (X Y:Int):Prop:=i.val X Y<=i.Den
def jlo (cx cy a b d:Int):Inf:=⟨d,-b,a,d*cx + -b*cy,-b*cx+a*cy,jel d (-b) a cx cy,a*d-b*b⟩
variable {X Y:Int}
theorem qjl {cx cy:Int} (h:qfq a b d (X-cx) (Y-cy)):(jlo cx cy a b d).holds X Y:=by
 have h3:=h.2.2;have e:(a-(X-cx)*(X-cx))*(d-(Y-cy)*(Y-cy))-(b-(X-cx)*(Y-cy))*(b-(X-cx)*(Y-cy))=(jlo cx cy a b d).Den-(jlo cx cy a b d).val X Y:=by
  simp only[jlo,Inf.val,jel]
  grind
 unfold Inf.holds;omega
def jlp (ox oy hx hy lo hi:Int):Inf:=⟨2*hx*(2*hx),2*hx*(2*hy),2*hy*(2*hy),(lo+hi+2*hx*ox+2*hy*oy)*(2*hx),(lo+hi+2*hx*ox+2*hy*oy)*(2*hy),(lo+hi+2*hx*ox+2*hy*oy)*(lo+hi+2*hx*ox+2*hy*oy),(hi-lo)*(hi-lo)⟩
theorem qwh {ox oy hx hy lo hi:Int} (h1:lo<=hx*(X-ox)+hy*(Y-oy)) (h2:hx*(X-ox)+hy*(Y-oy)<=hi):(jlp ox oy hx hy lo hi).holds X Y:=by
 have e:(jlp ox oy hx hy lo hi).Den-(jlp ox oy hx hy lo hi).val X Y=4*((hi-(hx*(X-ox)+hy*(Y-oy)))*(hx*(X-ox)+hy*(Y-oy)-lo)):=by
  simp only[jlp,Inf.val]
  grind
 have:=xy (by omega:0<=hi-(hx*(X-ox)+hy*(Y-oy))) (by omega:0<=hx*(X-ox)+hy*(Y-oy)-lo);unfold Inf.holds;omega
def jha (i j:Inf) (w:Int):Inf:=
 ⟨i.A*(w*j.Den)+j.A*((34-w)*i.Den),i.B*(w*j.Den)+j.B*((34-w)*i.Den),i.D*(w*j.Den)+j.D*((34-w)*i.Den),i.U*(w*j.Den)+j.U*((34-w)*i.Den),i.V*(w*j.Den)+j.V*((34-w)*i.Den),i.Z*(w*j.Den)+j.Z*((34-w)*i.Den),34*(i.Den*j.Den)⟩
variable {i:Inf} {w:Int}
theorem qmz {j:Inf} (hw:0<=w/\w<=34) (hi0:0<=i.Den) (hj0:0<=j.Den) (hi:i.holds X Y) (hj:j.holds X Y):(jha i j w).holds X Y:=by
 have e:(jha i j w).Den-(jha i j w).val X Y=(i.Den-i.val X Y)*(w*j.Den)+(j.Den-j.val X Y)*((34-w)*i.Den):=by
  simp only[jha,Inf.val]
  grind
 unfold Inf.holds at *;have h1:=xy (by omega:0<=i.Den-i.val X Y) (xy hw.1 hj0);have h2:=xy (by omega:0<=j.Den-j.val X Y) (xy (by omega:0<=34-w) hi0);omega
def Inf.level (i:Inf):Int:=(i.Den-i.Z)*i.d+((i.D*(i.U*i.U)+i.A*(i.V*i.V)) + -(2*(i.B*(i.U*i.V))))
def jes (a b d s t:Int):Int:=a*(s*s)+2*(b*(s*t))+d*(t*t)
theorem qln (ha:0<a) (h:a*x<=a*y):x<=y:=Int.le_of_mul_le_mul_left h ha
theorem q8p (i:Inf) (X Y:Int):jes i.A i.B i.D (i.d*X-i.x) (i.d*Y-i.y)=i.d*(i.level-i.d*(i.Den-i.val X Y)):=by
 obtain⟨A,B,D,U,V,Z,Den⟩:=i;simp only[jes,Inf.level,Inf.val,Inf.x,Inf.y,Inf.d]
 grind
theorem jlq (A B D s t u v:Int):jes D (-B) A s t*jes A B D u v=(A*D-B*B)*((u*s+v*t)*(u*s+v*t))+(s*(B*u+D*v)-t*(A*u+B*v))*(s*(B*u+D*v)-t*(A*u+B*v)):=by
 simp only[jes]
 grind
theorem qz0 {A B D:Int} (hA:0<A) (hd:0<A*D-B*B) (u v:Int):0<=jes A B D u v:=by
 refine qiz hA ?_;have e:A*jes A B D u v=(A*u+B*v)*(A*u+B*v)+(A*D-B*B)*(v*v):=by
  simp only[jes];grind
 rw[e];have h1:=jea (A*u+B*v);have h2:=xy (yd hd) (jea v);omega
theorem qq3 (hA:0<i.A) (hd:0<i.d) (h:i.holds X Y):0<=i.level/\∀ s t,((i.d*X-i.x)*s+(i.d*Y-i.y)*t)*((i.d*X-i.x)*s+(i.d*Y-i.y)*t)<=i.level*jes i.D (-i.B) i.A s t:=by
 have hk:=q8p i X Y;have hn:=qz0 hA hd (i.d*X-i.x) (i.d*Y-i.y);have h1:0<=i.d*(i.Den-i.val X Y):=xy (yd hd) (by unfold Inf.holds at h;omega);have h2:0<=i.level-i.d*(i.Den-i.val X Y):=qiz hd Q8G;have h3:jes i.A i.B i.D (i.d*X-i.x) (i.d*Y-i.y)<=i.d*i.level:=by
  rw[hk];exact ya Q8G (yd hd)
 refine⟨by omega,fun s t=>?_⟩;have hD:0<i.D:=by
  have hd':0<i.A*i.D-i.B*i.B:=hd;have h4:=jea i.B;refine Int.not_le.1 fun h5=>?_
  have:=Int.mul_nonpos_of_nonneg_of_nonpos (yd hA) h5;omega
 have hs:=qz0 (A:=i.D) (B:=-i.B) (D:=i.A) hD (by have:0<i.A*i.D-i.B*i.B:=hd;rw[Int.mul_comm i.D,Int.neg_mul_neg];exact this) s t;have hc:=jlq i.A i.B i.D s t (i.d*X-i.x) (i.d*Y-i.y);have h5:=ya h3 hs;rw[hc] at h5;have h6:=jea (s*(i.B*(i.d*X-i.x)+i.D*(i.d*Y-i.y))-t*(i.A*(i.d*X-i.x)+i.B*(i.d*Y-i.y)));refine qln hd ?_;have e:jes i.D (-i.B) i.A s t*(i.d*i.level)=i.d*(i.level*jes i.D (-i.B) i.A s t):=by grind
 rw[e] at h5;have e2:i.A*i.D-i.B*i.B=i.d:=rfl;rw[e2] at h5;omega
def dom (a b d u v q:Int):Prop:=∀ s t:Int,(u*s+v*t)*(u*s+v*t)<=q*q*jes a b d s t
theorem q8q {m:Int} (hm:0<=m) (hx:m<=x) (hz:m<=z) (hy : -m<=y/\y<=m):jhm x y z:=by
 refine⟨by omega,by omega,?_⟩;have h1:m*m<=x*z:=xS hx hz hm Q8G;have h2:y*y<=m*m:=by
  have:=xy (by omega:0<=m-y) (by omega:0<=m+y);have e:(m-y)*(m+y)=m*m-y*y:=by grind
  omega
 omega
variable {r:Int}
theorem qz1 {p q k m:Int} (hm:0<=m) (ha:p+m<=k*a) (hd:q+m<=k*d) (hb:r-m<=k*b/\k*b<=r+m) (s t:Int):jes p r q s t<=k*jes a b d s t:=by
 have h:=qlm (q8q (x:=k*a-p) (y:=k*b-r) (z:=k*d-q) hm Q8G Q8G Q8G) s t;have e:(k*a-p)*(s*s)+2*((k*b-r)*(s*t))+(k*d-q)*(t*t)=k*jes a b d s t-jes p r q s t:=by simp only[jes];grind
 omega
def jdv (p s:Int):Int:=-(-p / s)
def jdy (x d:Int):Int:=(x+x+d) / (d+d)
theorem qjm {p s:Int} (hs:0<s):p<=s*jdv p s:=by
 unfold jdv;have h1:=Int.mul_ediv_add_emod (-p) s;have h2:=Int.emod_nonneg (-p) (by omega:s≠0);rw[Int.mul_neg];omega
theorem qoo {s:Int} (hs:0<s):r-s<=s*(r / s)/\s*(r / s)<=r:=by
 have h1:=Int.mul_ediv_add_emod r s;have h2:=Int.emod_nonneg r (by omega:s≠0);have h3:=Int.emod_lt_of_pos r hs;omega
theorem q57 (hd:0<d) : -d<=2*(x-jdy x d*d)/\2*(x-jdy x d*d)<=d:=by
 unfold jdy;have h:=qoo (r:=x+x+d) (s:=d+d) Q8G;have h3:=Int.emod_lt_of_pos (x+x+d) (by omega:0<d+d);have h4:=Int.mul_ediv_add_emod (x+x+d) (d+d);generalize (x+x+d) / (d+d)=n at *;have e:(d+d)*n=2*(n*d):=by grind
 omega
theorem qz2 (hA:0<i.A) (hd:0<i.d) (h:i.holds X Y):dom (jdv (i.level*i.D) (i.d*i.d)+1) (-(i.level*i.B) / (i.d*i.d)) (jdv (i.level*i.A) (i.d*i.d)+1) (i.d*X-i.x) (i.d*Y-i.y) i.d:=by
 intro s t;have hs:0<i.d*i.d:=Int.mul_pos hd hd;have h1:=(qq3 hA hd h).2 s t;have hp:=qjm (p:=i.level*i.D) hs;have hq:=qjm (p:=i.level*i.A) hs;have hr:=qoo (r:=-(i.level*i.B)) hs;have h2:=qz1 (a:=jdv (i.level*i.D) (i.d*i.d)+1) (b:=-(i.level*i.B) / (i.d*i.d)) (d:=jdv (i.level*i.A) (i.d*i.d)+1) (p:=i.level*i.D) (r:=-(i.level*i.B)) (q:=i.level*i.A) (k:=i.d*i.d) (m:=i.d*i.d) Q8G (by rw[Int.mul_add];omega) (by rw[Int.mul_add];omega) ⟨by omega,by omega⟩ s t;have e:i.level*jes i.D (-i.B) i.A s t=jes (i.level*i.D) (-(i.level*i.B)) (i.level*i.A) s t:=by simp only[jes];grind
 omega
theorem qz3 {cx cy:Int} (hx : -d<=2*(x-cx*d)/\2*(x-cx*d)<=d) (hy : -d<=2*(y-cy*d)/\2*(y-cy*d)<=d):dom 1 0 1 (x-cx*d) (y-cy*d) d:=by
 intro s t;generalize x-cx*d=u at *;generalize y-cy*d=v at *;have hu:2*(u*u)<=d*d:=by
  have:=xy (by omega:0<=d-2*u) (by omega:0<=d+2*u);have e:(d-2*u)*(d+2*u)=d*d-4*(u*u):=by grind
  have:=jea u;omega
 have hv:2*(v*v)<=d*d:=by
  have:=xy (by omega:0<=d-2*v) (by omega:0<=d+2*v);have e:(d-2*v)*(d+2*v)=d*d-4*(v*v):=by grind
  have:=jea v;omega
 have h1:(u*s+v*t)*(u*s+v*t)+(u*t-v*s)*(u*t-v*s)=(u*u+v*v)*(s*s+t*t):=by grind
 have h2:=jea (u*t-v*s);have h3:=Int.mul_le_mul_of_nonneg_right (by omega:u*u+v*v<=d*d) (by have:=jea s;have:=jea t;omega:0<=s*s+t*t);have e:d*d*jes 1 0 1 s t=d*d*(s*s+t*t):=by simp only[jes];grind
 omega
theorem q8r {ea eb ed fa fb fd s t u v q:Int} (hs:0<s) (ht:0<t) (he:dom ea eb ed u v q) (hf:dom fa fb fd x y q)
  (ha:a=jdv ((s+t)*ea) s+jdv ((s+t)*fa) t+2) (hd:d=jdv ((s+t)*ed) s+jdv ((s+t)*fd) t+2) (hb:b=(s+t)*eb / s+(s+t)*fb / t):dom a b d (u+x) (v+y) q:=by
 intro m n
 have hst:0<s*t:=Int.mul_pos hs ht
 refine qln hst ?_
 have h1:=he m n
 have h2:=hf m n
 have a1:=qjm (p:=(s+t)*ea) hs
 have a2:=qjm (p:=(s+t)*fa) ht
 have d1:=qjm (p:=(s+t)*ed) hs
 have d2:=qjm (p:=(s+t)*fd) ht
 have b1:=qoo (r:=(s+t)*eb) hs
 have b2:=qoo (r:=(s+t)*fb) ht
 have up:∀ {x y p r c1 c2:Int},(s+t)*x<=s*c1->(s+t)*y<=t*c2->t*((s+t)*x)+s*((s+t)*y)+2*(s*t)<=s*t*(c1+c2+2):=by
  intro x y p r c1 c2 h1 h2;have h3:=ya h1 (yd ht);have h4:=ya h2 (yd hs);have e:s*t*(c1+c2+2)=t*(s*c1)+s*(t*c2)+2*(s*t):=by grind
  omega
 have hB:t*((s+t)*eb)+s*((s+t)*fb)-2*(s*t)<=s*t*b/\s*t*b<=t*((s+t)*eb)+s*((s+t)*fb)+2*(s*t):=by
  have h3:=ya b1.1 (yd ht);have h4:=ya b1.2 (yd ht);have h5:=ya b2.1 (yd hs);have h6:=ya b2.2 (yd hs);have e:s*t*b=t*(s*((s+t)*eb / s))+s*(t*((s+t)*fb / t)):=by rw[hb];grind
  have e1:t*((s+t)*eb-s)=t*((s+t)*eb)-s*t:=by grind
  have e2:s*((s+t)*fb-t)=s*((s+t)*fb)-s*t:=by grind
  omega
 have h3:=qz1 (a:=a) (b:=b) (d:=d) (p:=t*((s+t)*ea)+s*((s+t)*fa)) (r:=t*((s+t)*eb)+s*((s+t)*fb)) (q:=t*((s+t)*ed)+s*((s+t)*fd)) (k:=s*t) (m:=2*(s*t)) Q8G (by rw[ha];exact up (p:=0) (r:=0) a1 a2) (by rw[hd];exact up (p:=0) (r:=0) d1 d2) hB m n
 have e:jes (t*((s+t)*ea)+s*((s+t)*fa)) (t*((s+t)*eb)+s*((s+t)*fb)) (t*((s+t)*ed)+s*((s+t)*fd)) m n=(s+t)*(t*jes ea eb ed m n+s*jes fa fb fd m n):=by simp only[jes];grind
 rw[e] at h3
 have h4:s*t*(((u+x)*m+(v+y)*n)*((u+x)*m+(v+y)*n))+(t*(u*m+v*n)-s*(x*m+y*n))*(t*(u*m+v*n)-s*(x*m+y*n))=(s+t)*(t*((u*m+v*n)*(u*m+v*n))+s*((x*m+y*n)*(x*m+y*n))):=by grind
 have h5:=jea (t*(u*m+v*n)-s*(x*m+y*n))
 have h6:(s+t)*(t*((u*m+v*n)*(u*m+v*n))+s*((x*m+y*n)*(x*m+y*n)))<=(s+t)*(t*(q*q*jes ea eb ed m n)+s*(q*q*jes fa fb fd m n)):=by
  refine ya ?_ Q8G;have h7:=ya h1 (yd ht);have h8:=ya h2 (yd hs);omega
 have h7:=ya h3 (jea q)
 have e2:(s+t)*(t*(q*q*jes ea eb ed m n)+s*(q*q*jes fa fb fd m n))=q*q*((s+t)*(t*jes ea eb ed m n+s*jes fa fb fd m n)):=by grind
 have e3:s*t*(q*q*jes a b d m n)=q*q*(s*t*jes a b d m n):=by grind
 omega
theorem qq4 {q:Int} (hq:q≠0) (h:dom a b d (q*x) (q*y) q):qfq a b d x y:=by
 rw[holds_iff];intro s t;have h1:=h s t;have hqq:0<q*q:=by
  have:=jea q;have:q*q≠0:=fun h=>hq Qad
  omega
 refine qln hqq ?_;have e:(q*x*s+q*y*t)*(q*x*s+q*y*t)=q*q*((x*s+y*t)*(x*s+y*t)):=by grind
 rw[e] at h1;exact h1
theorem qz4 (hA:0<i.A) (hd:0<i.d) {s t:Int} (h:i.holds X Y) (hs:0<s) (ht:0<t)
  (ha:a=jdv ((s+t)*(jdv (i.level*i.D) (i.d*i.d)+1)) s+jdv ((s+t)*1) t+2) (hdd:d=jdv ((s+t)*(jdv (i.level*i.A) (i.d*i.d)+1)) s+jdv ((s+t)*1) t+2) (hb:b=(s+t)*(-(i.level*i.B) / (i.d*i.d)) / s+(s+t)*0 / t) :
  qfq a b d (X-jdy i.x i.d) (Y-jdy i.y i.d):=by
 have h1:=q8r hs ht (qz2 hA hd h) (qz3 (q57 (x:=i.x) hd) (q57 (x:=i.y) hd)) ha hdd hb
 refine qq4 (q:=i.d) Q8G ?_
 have e1:i.d*(X-jdy i.x i.d)=i.d*X-i.x+(i.x-jdy i.x i.d*i.d):=by grind
 have e2:i.d*(Y-jdy i.y i.d)=i.d*Y-i.y+(i.y-jdy i.y i.d*i.d):=by grind
 rw[e1,e2]
 exact h1
open Go Go.RowKit Sx
structure El where
 x:Int
 y:Int
 a:Int
 b:Int
 d:Int
def El.may (e:El):Prop:=jed e.x e.y e.a e.b e.d
instance (e:El):Decidable e.may:=by unfold El.may;infer_instance
def El.tr (e:El):Int:=if e.may then e.a+e.d else 0
abbrev El.o:El:=⟨0,0,0,0,0⟩
def El.at (e:El) (X Y:Int):Prop:=qfq e.a e.b e.d (X-e.x) (Y-e.y)
def El.rad (e:El):Nat:=usq e.tr.toNat
def jjn (e f:El):El:=
 ⟨e.x+f.x,e.y+f.y,jdv (((e.rad:Int)+f.rad)*e.a) e.rad+jdv (((e.rad:Int)+f.rad)*f.a) f.rad+2,((e.rad:Int)+f.rad)*e.b / e.rad+((e.rad:Int)+f.rad)*f.b / f.rad,jdv (((e.rad:Int)+f.rad)*e.d) e.rad+jdv (((e.rad:Int)+f.rad)*f.d) f.rad+2⟩
def jg4 (e f:El):El×Int:=if e.may/\f.may then (if (jjn e f).may then (jjn e f,0) else (El.o,2)) else (El.o,1)
def jd0 (x y r:Int):El:=⟨x,y,r*r,0,r*r⟩
def qes (e:El) (r:Int):El×Int:=if e.may/\0<=r/\r<=4194304 then (if r=0 then (e,0) else jg4 e (jd0 0 0 r)) else (El.o,1)
def jga (e:El) (speed ticks:Int):El×Int:=if e.may/\0<=speed/\0<=ticks then (if 0<ticks/\4194304 / ticks<speed then (El.o,2) else qes e (speed*ticks)) else (El.o,1)
def Inf.mid (i:Inf):El:=⟨jdy i.x i.d,jdy i.y i.d,jdv (i.level*i.D) (i.d*i.d)+1,-(i.level*i.B) / (i.d*i.d),jdv (i.level*i.A) (i.d*i.d)+1⟩
def ellF (i:Inf):El×Int:=if i.A<=0\/i.d<=0 then (El.o,1) else if i.level<0 then (El.o,3) else if i.mid.may then qes i.mid 1 else (El.o,2)
def El.inf (e:El):Inf:=jlo e.x e.y e.a e.b e.d
def fuseW (e f:El) (w:Int):El×Int:=if 0<=w/\w<=34 then ellF (jha e.inf f.inf w) else (El.o,1)
structure Strip where
 ox:Int
 oy:Int
 hx:Int
 hy:Int
 lo:Int
 hi:Int
def Strip.may (s:Strip):Prop:=qax 4194304 s.ox s.oy/\qax 16777216 s.hx s.hy/\¬ (s.hx=0/\s.hy=0)/\-1125899906842624<=s.lo/\s.lo<s.hi/\s.hi<=1125899906842624
instance (s:Strip):Decidable s.may:=by unfold Strip.may;infer_instance
def Strip.inf (s:Strip):Inf:=jlp s.ox s.oy s.hx s.hy s.lo s.hi
def cutW (e:El) (s:Strip) (w:Int):El×Int:=if 0<=w/\w<=34 then ellF (jha e.inf s.inf w) else (El.o,1)
structure GV where
 n:Int
 ok:Bool
def GV.most (v w:GV):Bool:=!w.ok||(v.ok&&decide (v.n<=w.n))
structure GS where
 w:Int
 best:GV
 emp:Bool
def jep (of:Int->El×Int) (w:Int):GV:=⟨(of w).1.tr,decide ((of w).2=0)⟩
def GS.ask (of:Int->El×Int) (s:GS) (w:Int):GS:=
 if (jep of w).ok&&(!s.best.ok||decide ((jep of w).n<s.best.n)||(decide ((jep of w).n=s.best.n)&&decide (w<s.w))) then ⟨w,jep of w,s.emp||decide ((of w).2=3)⟩ else ⟨s.w,s.best,s.emp||decide ((of w).2=3)⟩
structure GL where
 a:Int
 b:Int
 x:Int
 y:Int
 fx:GV
 fy:GV
 s:GS
def GL.left (of:Int->El×Int) (l:GL):GL:=
 if l.a+l.y-l.x=l.x then ⟨l.a,l.y,l.a+l.y-l.x,l.x,l.fx,l.fx,l.s⟩ else ⟨l.a,l.y,l.a+l.y-l.x,l.x,jep of (l.a+l.y-l.x),l.fx,l.s.ask of (l.a+l.y-l.x)⟩
def GL.right (of:Int->El×Int) (l:GL):GL:=
 if l.x+l.b-l.y=l.y then ⟨l.x,l.b,l.y,l.x+l.b-l.y,l.fy,l.fy,l.s⟩ else ⟨l.x,l.b,l.y,l.x+l.b-l.y,l.fy,jep of (l.x+l.b-l.y),l.s.ask of (l.x+l.b-l.y)⟩
def GL.step (of:Int->El×Int) (l:GL):GL:=if l.fx.most l.fy then l.left of else l.right of
def GS.first (of:Int->El×Int) (e:Bool):GS:=(GS.ask of ⟨0,⟨0,false⟩,e⟩ 13).ask of 21
def GL.start (of:Int->El×Int) (e:Bool):GL:=⟨0,34,13,21,jep of 13,jep of 21,GS.first of e⟩
def GL.go (of:Int->El×Int) (e:Bool):Nat->GL
 | 0=>GL.start of e
 | n+1=>(GL.go of e n).step of
def gwide:Nat->Int×Int×Int
 | 0=>(34,13,21)
 | 1=>(21,8,13)
 | 2=>(13,5,8)
 | 3=>(8,3,5)
 | 4=>(5,2,3)
 | 5=>(3,1,2)
 | _=>(2,1,1)
theorem qdr (of:Int->El×Int) (e:Bool):∀ n,n<=6->(GL.go of e n).b=(GL.go of e n).a+(gwide n).1/\(GL.go of e n).x=(GL.go of e n).a+(gwide n).2.1/\(GL.go of e n).y=(GL.go of e n).a+(gwide n).2.2/\0<=(GL.go of e n).a/\(GL.go of e n).b<=34:=by
 intro n
 induction n with
 | zero=>intro _;simp[GL.go,GL.start,gwide]
 | succ n ih=>
  intro hn;obtain⟨h1,h2,h3,h4,h5⟩:=ih Q8G;have hn':n=0\/n=1\/n=2\/n=3\/n=4\/n=5:=by omega
  simp only[GL.go];generalize GL.go of e n=l at *;unfold GL.step GL.left GL.right;rcases hn' with rfl|rfl|rfl|rfl|rfl|rfl<;>simp only[gwide] at *<;>(split<;>split<;>simp only[]<;>omega)
def lesser (out x:El):El:=if x.tr<out.tr then x else out
def qbi (e:El) (of:Int->El×Int) (more:List El):El×Int:=
 if (GL.go of false 6).s.emp then (El.o,3) else ((([e]++(if (GL.go of false 6).s.best.ok then [(of (GL.go of false 6).s.w).1] else []))++more).foldl lesser e,0)
def fuseF (e f:El):El×Int:=if e.may/\f.may then qbi e (fuseW e f) [f] else (El.o,1)
def cutF (e:El) (s:Strip):El×Int:=if e.may/\s.may then qbi e (cutW e s) [] else (El.o,1)
variable {e:El}
theorem qst (h:e.may):(0:Int)<e.rad:=by
 have hm:=h;unfold El.may jed at hm;have h1:=qmw e.tr.toNat;have e1:e.tr=e.a+e.d:=by unfold El.tr;rw[if_pos h]
 unfold El.rad;rcases yO (usq e.tr.toNat) with h0|h0
 ·rw[h0] at h1;omega
 ·omega
theorem q3x {f r:El} (h:jg4 e f=(r,0)):r.may/\e.may/\f.may/\r=jjn e f:=by
 unfold jg4 at h;split at h
 ·rename_i h1;split at h
  ·rename_i h2;obtain rfl:jjn e f=r:=by injection h
   exact⟨h2,h1.1,h1.2,rfl⟩
  ·injection h with _ h;cases h
 ·injection h with _ h;cases h
theorem q3y (h:x*x+y*y<=r*r):dom (r*r) 0 (r*r) x y 1:=by
 intro s t;have h1:(x*s+y*t)*(x*s+y*t)+(x*t-y*s)*(x*t-y*s)=(x*x+y*y)*(s*s+t*t):=by grind
 have h2:=jea (x*t-y*s);have h3:=Int.mul_le_mul_of_nonneg_right h (by have:=jea s;have:=jea t;omega:0<=s*s+t*t);have e:1*1*jes (r*r) 0 (r*r) s t=r*r*(s*s+t*t):=by simp only[jes];grind
 omega
theorem qq5 {g:El} (h:qes e r=(g,0)):g.may/\e.may:=by
 unfold qes at h;split at h
 ·rename_i h1;split at h
  ·obtain rfl:e=g:=by injection h
   exact⟨h1.1,h1.1⟩
  ·exact⟨(q3x h).1,h1.1⟩
 ·injection h with _ h;cases h
theorem q3z {g:El} {s k:Int} (h:jga e s k=(g,0)):g.may:=by
 unfold jga at h;split at h
 ·split at h
  ·injection h with _ h;cases h
  ·exact(qq5 h).1
 ·injection h with _ h;cases h
theorem qz5 {g:El} (h:ellF i=(g,0)):g.may:=by
 unfold ellF at h;split at h
 ·injection h with _ h;cases h
 ·split at h
  ·injection h with _ h;cases h
  ·split at h
   ·exact(qq5 h).1
   ·injection h with _ h;cases h
theorem q8s (i:Inf):jjn i.mid (jd0 0 0 1)=⟨jdy i.x i.d+0,jdy i.y i.d+0,jdv (((i.mid.rad:Int)+(jd0 0 0 1).rad)*(jdv (i.level*i.D) (i.d*i.d)+1)) i.mid.rad+jdv (((i.mid.rad:Int)+(jd0 0 0 1).rad)*1) (jd0 0 0 1).rad+2,((i.mid.rad:Int)+(jd0 0 0 1).rad)*(-(i.level*i.B) / (i.d*i.d)) / i.mid.rad+((i.mid.rad:Int)+(jd0 0 0 1).rad)*0 / (jd0 0 0 1).rad,jdv (((i.mid.rad:Int)+(jd0 0 0 1).rad)*(jdv (i.level*i.A) (i.d*i.d)+1)) i.mid.rad+jdv (((i.mid.rad:Int)+(jd0 0 0 1).rad)*1) (jd0 0 0 1).rad+2⟩:=rfl
theorem qq6 (hp:i.holds X Y):(ellF i).2≠3/\∀ g,ellF i=(g,0)->g.may/\g.at X Y:=by
 unfold ellF;split
 ·exact Q2H
 rename_i h1;have hA:0<i.A:=by omega
 have hd:0<i.d:=by omega
 split
 ·rename_i h2;have:=(qq3 hA hd hp).1;omega
 split
 ·rename_i h3;unfold qes;rw[if_pos ⟨h3,by decide,by decide⟩,if_neg Q8H];unfold jg4;split
  ·rename_i h4;split
   ·rename_i h5;refine⟨by simp,fun g h=>?_⟩;obtain rfl:jjn i.mid (jd0 0 0 1)=g:=by injection h
    refine⟨h5,?_⟩;have hk:=qz4 hA hd hp (qst h4.1) (qst h4.2) rfl rfl rfl;rw[q8s];show qfq _ _ _ (X-(jdy i.x i.d+0)) (Y-(jdy i.y i.d+0));rw[Int.add_zero,Int.add_zero];exact hk
   ·exact Q2H
  ·exact Q2H
 ·exact Q2H
theorem qz6 (h:e.may):0<=e.inf.Den:=by
 unfold El.may jed at h;show 0<=e.a*e.d-e.b*e.b;omega
theorem q8t (s:Strip):0<=s.inf.Den:=jea _
theorem qsu {f:El} (he:e.may) (hf:f.may) (h1:e.at X Y) (h2:f.at X Y) (w:Int):(fuseW e f w).2≠3/\∀ g,fuseW e f w=(g,0)->g.may/\g.at X Y:=by
 unfold fuseW;split
 ·rename_i hw;exact qq6 (qmz hw (qz6 he) (qz6 hf) (qjl h1) (qjl h2))
 ·exact Q2H
variable {s:Strip}
theorem qwi (he:e.may) (h1:e.at X Y) (h2:s.lo<=s.hx*(X-s.ox)+s.hy*(Y-s.oy)/\s.hx*(X-s.ox)+s.hy*(Y-s.oy)<=s.hi) (w:Int):(cutW e s w).2≠3/\∀ g,cutW e s w=(g,0)->g.may/\g.at X Y:=by
 unfold cutW;split
 ·rename_i hw;exact qq6 (qmz hw (qz6 he) (q8t s) (qjl h1) (qwh h2.1 h2.2))
 ·exact Q2H
def GS.good (of:Int->El×Int) (s:GS):Prop:=s.best.ok=true->s.best=jep of s.w
variable {of:Int->El×Int}
theorem qkg {s:GS} (h:s.good of) (w:Int):(s.ask of w).good of/\((∀ w,(of w).2≠3)->s.emp=false->(s.ask of w).emp=false):=by
 unfold GS.ask;split
 ·exact⟨fun _=>rfl,fun h3 he=>by simp[he,h3 w]⟩
 ·exact⟨h,fun h3 he=>by simp[he,h3 w]⟩
theorem qz7 {l:GL} (h:l.s.good of):(l.step of).s.good of/\((∀ w,(of w).2≠3)->l.s.emp=false->(l.step of).s.emp=false):=by
 unfold GL.step GL.left GL.right;split<;>split
 ·exact⟨h,fun _ he=>he⟩
 ·exact qkg h _
 ·exact⟨h,fun _ he=>he⟩
 ·exact qkg h _
theorem qz8 (of:Int->El×Int):∀ n,(GL.go of false n).s.good of/\((∀ w,(of w).2≠3)->(GL.go of false n).s.emp=false):=by
 intro n
 induction n with
 | zero=>
  have h0:GS.good of ⟨0,⟨0,false⟩,false⟩:=fun h=>by cases h
  have h1:=qkg h0 13;have h2:=qkg h1.1 21;exact⟨h2.1,fun h3=>h2.2 h3 (h1.2 h3 rfl)⟩
 | succ n ih=>
  have h1:=qz7 ih.1;exact⟨h1.1,fun h3=>h1.2 h3 (ih.2 h3)⟩
theorem qsv (P:El->Prop):∀ (l:List El) (o:El),P o->(∀ x∈l,P x)->P (l.foldl lesser o)/\(l.foldl lesser o).tr<=o.tr:=by
 intro l
 induction l with
 | nil=>exact fun o h _=>⟨h,yp _⟩
 | cons a l ih=>
  intro o h hl;have h1:P (lesser o a)/\(lesser o a).tr<=o.tr:=by
   unfold lesser;split
   ·exact⟨hl a Q8R,by omega⟩
   ·exact⟨h,yp _⟩
  have h2:=ih (lesser o a) h1.1 (fun x hx=>hl x Q9Z);exact⟨h2.1,Int.le_trans h2.2 h1.2⟩
variable {more:List El}
theorem qf0 (P:El->Prop) (he:P e) (hof:∀ w g,of w=(g,0)->P g) (hm:∀ f∈more,P f) {r:El} {c:Int} (h:qbi e of more=(r,c)):(c=0/\P r/\r.tr<=e.tr)\/c=3/\r=El.o:=by
 unfold qbi at h;split at h
 ·injection h with h1 h2;exact .inr ⟨h2.symm,h1.symm⟩
 ·injection h with h1 h2;left;refine⟨h2.symm,?_⟩;subst h1;refine qsv P _ e he fun x hx=>?_
  simp only[yM,xg,xI,or_false] at hx;rcases hx with (rfl|hx)|hx
  ·exact he
  ·split at hx
   ·rename_i hok;simp only[xg,xI,or_false] at hx;subst hx;have:=(qz8 of 6).1 hok;rw[this] at hok;have hz:(of (GL.go of false 6).s.w).2=0:=by simpa[jep] using hok
    exact hof _ _ (by rw[<-hz])
   ·cases hx
  ·exact hm x hx
theorem qm0 (h3:∀ w,(of w).2≠3):(qbi e of more).2=0:=by
 unfold qbi;rw[(qz8 of 6).2 h3];rfl
theorem qet {f:El} (he:e.may) (hf:f.may) (h1:e.at X Y) (h2:f.at X Y):∃ r,fuseF e f=(r,0)/\(r.may/\r.at X Y)/\r.tr<=e.tr:=by
 have hw:=qsu he hf h1 h2;have e0:fuseF e f=qbi e (fuseW e f) [f]:=by unfold fuseF;rw[if_pos ⟨he,hf⟩]
 have h3:=qm0 (e:=e) (of:=fuseW e f) (more:=[f]) fun w=>(hw w).1
 rcases qf0 (fun r=>r.may/\r.at X Y) ⟨he,h1⟩ (fun w g hg=>(hw w).2 g hg) (fun x hx=>by simp at hx;subst hx;exact⟨hf,h2⟩) (r:=(qbi e (fuseW e f) [f]).1) (c:=(qbi e (fuseW e f) [f]).2) rfl with ⟨h4,h5,h6⟩|⟨h4,_⟩
 ·refine⟨_,?_,h5,h6⟩;rw[e0,<-h3]
 ·omega
theorem qwj (he:e.may) (hs:s.may) (h1:e.at X Y) (h2:s.lo<=s.hx*(X-s.ox)+s.hy*(Y-s.oy)/\s.hx*(X-s.ox)+s.hy*(Y-s.oy)<=s.hi):∃ r,cutF e s=(r,0)/\(r.may/\r.at X Y)/\r.tr<=e.tr:=by
 have hw:=qwi he h1 h2;have e0:cutF e s=qbi e (cutW e s) []:=by unfold cutF;rw[if_pos ⟨he,hs⟩]
 have h3:=qm0 (e:=e) (of:=cutW e s) (more:=[]) fun w=>(hw w).1
 rcases qf0 (fun r=>r.may/\r.at X Y) ⟨he,h1⟩ (fun w g hg=>(hw w).2 g hg) (fun x hx=>by simp at hx) (r:=(qbi e (cutW e s) []).1) (c:=(qbi e (cutW e s) []).2) rfl with ⟨h4,h5,h6⟩|⟨h4,_⟩
 ·refine⟨_,?_,h5,h6⟩;rw[e0,<-h3]
 ·omega
abbrev gc (x:Int):Chunk:=⟨true,1,[(0,1,xc x)]⟩
abbrev gcR (x:Int):Chunk:=⟨false,1,[(0,1,xc x)]⟩
variable {p:Nat->Prop}
theorem g1 (h:p 0):∀ j,j<1->p j:=fun j hj=>by
 obtain rfl:j=0:=by omega
 exact h
theorem qq7 (w:World) (ts:Array TypeId) (t:TypeId) (k:IntKind) (x y z:Int):(Builtin.max_ ts t #[.int k x,.int k y,.int k z]).run prog w=.ok (.int k (if z > (if y > x then y else x) then z else (if y > x then y else x))) w:=by
 simp[Builtin.max_,Builtin.max2]
variable {k:IntKind}
theorem N.max3 {ts:Array TypeId} {t:TypeId} {K:Value->Prop} (h:K (.int k (max (max x y) z))):N (qta prog .max ts t [.int k x,.int k y,.int k z] K):=by
 refine N.mk ⟨.int k (max (max x y) z),⟨rfl,rfl,fun cs w=>?_⟩,h⟩;have e:(if y > x then y else x)=max x y:=by split<;>omega
 have e2:(if z > max x y then z else max x y)=max (max x y) z:=by split<;>omega
 show(do pure (Next.value (<-Builtin.max_ ts t #[.int k x,.int k y,.int k z])):Sem _).run prog w=_;rw[Sem.run_bind,qq7,e,e2];rfl
abbrev fnV (g:FuncId):Value:=.func (.func g) #[] #[]
theorem quu (s t:Nat) (x y bad:Int) (hs:0<s/\s<1073741824) (ht:0<t/\t<1073741824) (hx : -9223372036854775808<=x/\x<9223372036854775808) (hy : -9223372036854775808<=y/\y<9223372036854775808) (i j k:Nat) (h:Hp) (hi:h[i]?=some (some (gc (s:Int)))) (hj:h[j]?=some (some (gc (t:Int)))) (hk:h[k]?=some (some (gc bad))) (hne:i≠j/\i≠k/\j≠k) :
  qaf prog 223 [fnV 172,xc x,xc y,xd i,xd j,xd k] h (xc (IntKind.i64.wrap (n64 (-(-(IntKind.i64.wrap ((s:Int)+t)*x) / (s:Int)))+n64 (-(-(IntKind.i64.wrap ((s:Int)+t)*y) / (t:Int)))))) [(k,gc (max (max bad (e64 (-(-(IntKind.i64.wrap ((s:Int)+t)*x) / (s:Int))))) (e64 (-(-(IntKind.i64.wrap ((s:Int)+t)*y) / (t:Int))))))] [i,j]:=by
 have e1:IntKind.i64.wrap ((s:Int)+t)=(s:Int)+t:=jdx _ Q8G Q8G
 refine qal (G:=tys) [⟨i,_,gcR (s:Int),⟨false,0,[]⟩⟩,⟨j,_,gcR (t:Int),⟨false,0,[]⟩⟩,⟨k,_,gc bad,gc (max (max bad (e64 (-(-(IntKind.i64.wrap ((s:Int)+t)*x) / (s:Int))))) (e64 (-(-(IntKind.i64.wrap ((s:Int)+t)*y) / (t:Int)))))⟩] [] [fnV 172,xc x,xc y,xd 0,xd 1,xd 2] tysOK mixed func223 Q8I (call223) ⟨hi,hj,hk,xb⟩ ⟨Q7M,Q7M,Q7v,xb⟩ Qaa xb Q8F ?_
 repeat' (refine Bb ?_;first|refine Q55 ?_|refine Bc (qll (IntKind.i64.wrap ((s:Int)+t)) x s _ Q8G Q8G hx.1 hx.2 Q8G Q8G) ?_|refine Bc (qll (IntKind.i64.wrap ((s:Int)+t)) y t _ Q8G Q8G hy.1 hy.2 Q8G Q8G) ?_|with_reducible refine N.max3 ?_|refine Q5q ?_|refine Ba Q74 ?_|refine Ba xb ?_|exact Bg|fail)
theorem q58 (s t:Nat) (x y bad:Int) (hs:0<s/\s<1073741824) (ht:0<t/\t<1073741824) (hx : -9223372036854775808<=x/\x<9223372036854775808) (hy : -9223372036854775808<=y/\y<9223372036854775808) (i j k:Nat) (h:Hp) (hi:h[i]?=some (some (gc (s:Int)))) (hj:h[j]?=some (some (gc (t:Int)))) (hk:h[k]?=some (some (gc bad))) (hne:i≠j/\i≠k/\j≠k) :
  qaf prog 223 [fnV 171,xc x,xc y,xd i,xd j,xd k] h (xc (IntKind.i64.wrap (n64 (IntKind.i64.wrap ((s:Int)+t)*x / (s:Int))+n64 (IntKind.i64.wrap ((s:Int)+t)*y / (t:Int))))) [(k,gc (max (max bad (e64 (IntKind.i64.wrap ((s:Int)+t)*x / (s:Int)))) (e64 (IntKind.i64.wrap ((s:Int)+t)*y / (t:Int)))))] [i,j]:=by
 have e1:IntKind.i64.wrap ((s:Int)+t)=(s:Int)+t:=jdx _ Q8G Q8G
 refine qal (G:=tys) [⟨i,_,gcR (s:Int),⟨false,0,[]⟩⟩,⟨j,_,gcR (t:Int),⟨false,0,[]⟩⟩,⟨k,_,gc bad,gc (max (max bad (e64 (IntKind.i64.wrap ((s:Int)+t)*x / (s:Int)))) (e64 (IntKind.i64.wrap ((s:Int)+t)*y / (t:Int))))⟩] [] [fnV 171,xc x,xc y,xd 0,xd 1,xd 2] tysOK mixed func223 Q8I (call223) ⟨hi,hj,hk,xb⟩ ⟨Q7M,Q7M,Q7v,xb⟩ Qaa xb Q8F ?_
 repeat' (refine Bb ?_;first|refine Q55 ?_|refine Bc (qsr (IntKind.i64.wrap ((s:Int)+t)) x s _ Q8G Q8G hx.1 hx.2 Q8G Q8G) ?_|refine Bc (qsr (IntKind.i64.wrap ((s:Int)+t)) y t _ Q8G Q8G hy.1 hy.2 Q8G Q8G) ?_|with_reducible refine N.max3 ?_|refine Q5q ?_|refine Ba Q74 ?_|refine Ba xb ?_|exact Bg|fail)
def puV (s t:Nat) (x y:Int):Int:=IntKind.i64.wrap (n64 (-(-(IntKind.i64.wrap ((s:Int)+t)*x) / (s:Int)))+n64 (-(-(IntKind.i64.wrap ((s:Int)+t)*y) / (t:Int))))
def plV (s t:Nat) (x y:Int):Int:=IntKind.i64.wrap (n64 (IntKind.i64.wrap ((s:Int)+t)*x / (s:Int))+n64 (IntKind.i64.wrap ((s:Int)+t)*y / (t:Int)))
def puE (s t:Nat) (x y bad:Int):Int:=max (max bad (e64 (-(-(IntKind.i64.wrap ((s:Int)+t)*x) / (s:Int))))) (e64 (-(-(IntKind.i64.wrap ((s:Int)+t)*y) / (t:Int))))
def plE (s t:Nat) (x y bad:Int):Int:=max (max bad (e64 (IntKind.i64.wrap ((s:Int)+t)*x / (s:Int)))) (e64 (IntKind.i64.wrap ((s:Int)+t)*y / (t:Int)))
theorem jiz {cx cy:Int} (h:jed cx cy a b d):0<usq (trP cx cy a b d).toNat/\usq (trP cx cy a b d).toNat<1073741824:=by
 have hm:=h;unfold jed at hm;have e:trP cx cy a b d=a+d:=if_pos h;rw[e];have h1:=qmw (a+d).toNat;have h2:usq (a+d).toNat<=16777216:=quk Q8G;refine⟨?_,by omega⟩;rcases yO (usq (a+d).toNat) with h0|h0
 ·rw[h0] at h1;omega
 ·exact h0
theorem neF (h:a=0):(!(a==0))=false:=by subst h;rfl
theorem neT (h:¬ a=0):(!(a==0))=true:=by simpa using h
theorem ndF {P:Prop} [Decidable P] (h:P):(!decide P)=false:=by rw[xi h];rfl
theorem ndT {P:Prop} [Decidable P] (h:¬ P):(!decide P)=true:=by rw[xf h];rfl
theorem q8u (ex ey ea eb ed fx fy fa fb fd:Int) (he:jed ex ey ea eb ed) (hf:jed fx fy fa fb fd) (hb:plE (usq (trP ex ey ea eb ed).toNat) (usq (trP fx fy fa fb fd).toNat) eb fb (puE (usq (trP ex ey ea eb ed).toNat) (usq (trP fx fy fa fb fd).toNat) ed fd (puE (usq (trP ex ey ea eb ed).toNat) (usq (trP fx fy fa fb fd).toNat) ea fa 0))=0) (hm:jed (IntKind.i64.wrap (ex+fx)) (IntKind.i64.wrap (ey+fy)) (IntKind.i64.wrap (puV (usq (trP ex ey ea eb ed).toNat) (usq (trP fx fy fa fb fd).toNat) ea fa+2)) (plV (usq (trP ex ey ea eb ed).toNat) (usq (trP fx fy fa fb fd).toNat) eb fb) (IntKind.i64.wrap (puV (usq (trP ex ey ea eb ed).toNat) (usq (trP fx fy fa fb fd).toNat) ed fd+2))) (w:World):xa 206 #[elV ex ey ea eb ed,elV fx fy fa fb fd] w (.tuple #[elV (IntKind.i64.wrap (ex+fx)) (IntKind.i64.wrap (ey+fy)) (IntKind.i64.wrap (puV (usq (trP ex ey ea eb ed).toNat) (usq (trP fx fy fa fb fd).toNat) ea fa+2)) (plV (usq (trP ex ey ea eb ed).toNat) (usq (trP fx fy fa fb fd).toNat) eb fb) (IntKind.i64.wrap (puV (usq (trP ex ey ea eb ed).toNat) (usq (trP fx fy fa fb fd).toNat) ed fd+2)),xc 0]):=by
 have hs:=jiz he;have ht:=jiz hf;have he2:=he;have hf2:=hf;unfold jed at he2 hf2;refine qac (G:=tys) w tysOK mixed func206 Q8I Q8I Q8I ?_;repeat' (refine Bb ?_;first|refine Q55 ?_|refine Q5t ?_|refine Be (ndF hm) ?_|fail)
 all_goals rfl
theorem q8v (ex ey ea eb ed fx fy fa fb fd:Int) (he:jed ex ey ea eb ed) (hf:jed fx fy fa fb fd) (hb:plE (usq (trP ex ey ea eb ed).toNat) (usq (trP fx fy fa fb fd).toNat) eb fb (puE (usq (trP ex ey ea eb ed).toNat) (usq (trP fx fy fa fb fd).toNat) ed fd (puE (usq (trP ex ey ea eb ed).toNat) (usq (trP fx fy fa fb fd).toNat) ea fa 0))=0) (hm:¬ jed (IntKind.i64.wrap (ex+fx)) (IntKind.i64.wrap (ey+fy)) (IntKind.i64.wrap (puV (usq (trP ex ey ea eb ed).toNat) (usq (trP fx fy fa fb fd).toNat) ea fa+2)) (plV (usq (trP ex ey ea eb ed).toNat) (usq (trP fx fy fa fb fd).toNat) eb fb) (IntKind.i64.wrap (puV (usq (trP ex ey ea eb ed).toNat) (usq (trP fx fy fa fb fd).toNat) ed fd+2))) (w:World):xa 206 #[elV ex ey ea eb ed,elV fx fy fa fb fd] w (.tuple #[elV 0 0 0 0 0,xc 2]):=by
 have hs:=jiz he;have ht:=jiz hf;have he2:=he;have hf2:=hf;unfold jed at he2 hf2;refine qac (G:=tys) w tysOK mixed func206 Q8I Q8I Q8I ?_;repeat' (refine Bb ?_;first|refine Q55 ?_|refine Q5t ?_|refine Bf (ndT hm) ?_|fail)
 all_goals rfl
theorem q30 (x y a b d r:Int) (he:jed x y a b d) (hr:r=0) (w:World):xa 188 #[elV x y a b d,xc r] w (.tuple #[elV x y a b d,xc 0]):=by
 refine qac (G:=tys) w tysOK mixed func188 Q8I Q8I Q8I ?_;repeat' (refine Bb ?_;first|refine Q55 ?_|refine Bc (jd6 _ _ _ _ _ _) ?_|refine Be Qa6 ?_|refine Q61 ?_|refine Bf (by rw[hr];rfl) ?_|fail)
 all_goals rfl
theorem q31 (x y a b d r:Int) (he:jed x y a b d) (hr:0<r/\r<=4194304) (x' y' a' b' d' g:Int) (hS:∀ h:Hp,qaf prog 206 [elV x y a b d,elV 0 0 (r*r) 0 (r*r)] h (.tuple #[elV x' y' a' b' d',xc g]) [] []) (w:World):xa 188 #[elV x y a b d,xc r] w (.tuple #[elV x' y' a' b' d',xc g]):=by
 refine qac (G:=tys) w tysOK mixed func188 Q8I Q8I Q8I ?_;repeat' (refine Bb ?_;first|refine Q55 ?_|refine Bc (jd6 _ _ _ _ _ _) ?_|refine Be Qa6 ?_|refine Q61 ?_|refine Bc (qjy 0 0 r _ Q8H Q8G) ?_|refine Q5d ?_|refine Bc (hS _) ?_|fail)
 all_goals rfl
theorem q32 (h:qax 4194304 x y) (hr:0<r/\r<=4194304):jed x y (r*r) 0 (r*r):=by
 have h1:1*1<=r*r:=xS Q8G Q8G Q8G Q8G;have h2:r*r<=4194304*4194304:=xS Q8G Q8G Q8G Q8G;have h3:1*1<=(r*r)*(r*r):=xS Q8G Q8G Q8G Q8G;refine⟨h,by omega,by omega,by omega,by omega⟩
open Go Go.RowKit Sx
theorem qz9 {s c:Int} (hs:0<s) (h:x<=s*c):jdv x s<=c:=by
 unfold jdv;have h1 : -c<=-x / s:=Int.le_ediv_of_mul_le hs (by rw[Int.neg_mul,Int.mul_comm];omega);omega
theorem q0a {s:Int} (hs:0<s) (h:0<=x):0<=jdv x s:=by
 unfold jdv;have h1 : -x / s<=0:=by
  have:=Int.ediv_le_ediv (a:=-x) (b:=0) hs Q8G;rwa[Int.zero_ediv] at this
 omega
theorem quv {s c:Int} (hs:0<s) (h1 : -(s*c)<=x) (h2:x<=s*c) : -c<=x / s/\x / s<=c:=by
 constructor
 ·exact Int.le_ediv_of_mul_le hs (by rw[Int.neg_mul,Int.mul_comm];exact h1)
 ·have:=Int.ediv_le_ediv hs h2;rwa[Int.mul_ediv_cancel_left _ Q8G] at this
theorem qdm (h : -9223372036854775808<=z/\z<9223372036854775808):n64 z=z/\e64 z=0:=by
 obtain⟨h1,h2⟩:=qmu h;exact⟨h2,by unfold e64;rw[h1];rfl⟩
theorem qlo (h:e.may):(usq (trP e.x e.y e.a e.b e.d).toNat:Nat)=e.rad/\(1<=(e.rad:Int)/\(e.rad:Int)<=16777216)/\e.a<=e.rad*e.rad/\e.d<=e.rad*e.rad/\-(e.rad*e.rad:Int)<=e.b/\e.b<=e.rad*e.rad:=by
 have hm:=h;unfold El.may jed at hm;have ht:=show e.tr=e.a+e.d from by unfold El.tr;rw[if_pos h]
 have h1:=qmw e.tr.toNat;have h2:usq e.tr.toNat<=16777216:=quk Q8G;have h3:((e.tr.toNat:Nat):Int)<=((usq e.tr.toNat*usq e.tr.toNat:Nat):Int):=by exact_mod_cast h1
 rw[x6] at h3;have h4:=qst h;have hb : -(e.a+e.d)<=e.b/\e.b<=e.a+e.d:=by
  have h5:e.b*e.b<=(e.a+e.d)*(e.a+e.d):=by
   have e1:(e.a+e.d)*(e.a+e.d)=e.a*e.d+(e.a*e.d+e.a*e.a+e.d*e.d):=by grind
   have h6:=xy (show 0<=e.a by omega) (show 0<=e.d by omega);have h7:=jea e.a;have h8:=jea e.d;omega
  have:=qgq (m:=e.a+e.d) Q8G h5;omega
 refine⟨rfl,⟨by omega,by unfold El.rad;omega⟩,?_⟩;unfold El.rad;omega
theorem qop {s t:Int} (hs:1<=s/\s<=16777216) (ht:1<=t/\t<=16777216) (h1 : -(s*s)<=x) (h2:x<=s*s) : -((s*((s+t)*s)))<=(s+t)*x/\(s+t)*x<=s*((s+t)*s)/\(s+t)*s<=562949953421312:=by
 have e:s*((s+t)*s)=(s+t)*(s*s):=by grind
 have a1:=ya h1 (by omega:0<=s+t);have a2:=ya h2 (by omega:0<=s+t);have e2:(s+t) * -(s*s) = -((s+t)*(s*s)):=by grind
 have a3:(s+t)*s<=33554432*16777216:=xS Q8G hs.2 Q8G Q8G;refine⟨by omega,by omega,by omega⟩
theorem qwk {f:El} (he:e.may) (hf:f.may) :
  puV e.rad f.rad e.a f.a=jdv (((e.rad:Int)+f.rad)*e.a) e.rad+jdv (((e.rad:Int)+f.rad)*f.a) f.rad/\puV e.rad f.rad e.d f.d=jdv (((e.rad:Int)+f.rad)*e.d) e.rad+jdv (((e.rad:Int)+f.rad)*f.d) f.rad/\
  plV e.rad f.rad e.b f.b=((e.rad:Int)+f.rad)*e.b / e.rad+((e.rad:Int)+f.rad)*f.b / f.rad/\
  plE e.rad f.rad e.b f.b (puE e.rad f.rad e.d f.d (puE e.rad f.rad e.a f.a 0))=0/\
  IntKind.i64.wrap (puV e.rad f.rad e.a f.a+2)=jdv (((e.rad:Int)+f.rad)*e.a) e.rad+jdv (((e.rad:Int)+f.rad)*f.a) f.rad+2/\IntKind.i64.wrap (puV e.rad f.rad e.d f.d+2)=jdv (((e.rad:Int)+f.rad)*e.d) e.rad+jdv (((e.rad:Int)+f.rad)*f.d) f.rad+2:=by
 obtain⟨_,hs,ea,ed,eb1,eb2⟩:=qlo he
 obtain⟨_,ht,fa,fd,fb1,fb2⟩:=qlo hf
 have hm:=he
 have hn:=hf
 unfold El.may jed at hm hn
 generalize hS:(e.rad:Int)=s at *
 generalize hT:(f.rad:Int)=t at *
 have w1:IntKind.i64.wrap (s+t)=s+t:=jdx _ Q8G Q8G
 have up:∀ x y:Int,1<=x->x<=s*s->1<=y->y<=t*t->(0<=jdv ((s+t)*x) s/\jdv ((s+t)*x) s<=562949953421312)/\(0<=jdv ((s+t)*y) t/\jdv ((s+t)*y) t<=562949953421312):=by
  intro x y x1 x2 y1 y2;have p:=qop hs ht (by have:=jea s;omega : -(s*s)<=x) x2;have q:=qop ht hs (by have:=jea t;omega : -(t*t)<=y) y2;rw[Int.add_comm t s] at q;have n1:=xy (by omega:0<=s+t) (by omega:0<=x);have n2:=xy (by omega:0<=s+t) (by omega:0<=y);exact⟨⟨q0a Q8G n1,Int.le_trans (qz9 Q8G p.2.1) p.2.2⟩,⟨q0a Q8G n2,Int.le_trans (qz9 Q8G q.2.1) q.2.2⟩⟩
 have fl:(-562949953421312<=(s+t)*e.b / s/\(s+t)*e.b / s<=562949953421312)/\(-562949953421312<=(s+t)*f.b / t/\(s+t)*f.b / t<=562949953421312):=by
  have p:=qop hs ht eb1 eb2;have q:=qop ht hs fb1 fb2;rw[Int.add_comm t s] at q;have p2:=quv (by omega:0<s) p.1 p.2.1;have q2:=quv (by omega:0<t) q.1 q.2.1;omega
 have hA:=up e.a f.a Q8G ea Q8G fa
 have hD:=up e.d f.d Q8G ed Q8G fd
 unfold puV plV plE puE
 rw[hS,hT,w1]
 have c:∀ x k:Int,-(-x / k)=jdv x k:=fun _ _=>rfl
 simp only[c]
 have a1:=qdm (z:=jdv ((s+t)*e.a) s) Q8G
 have a2:=qdm (z:=jdv ((s+t)*f.a) t) Q8G
 have d1:=qdm (z:=jdv ((s+t)*e.d) s) Q8G
 have d2:=qdm (z:=jdv ((s+t)*f.d) t) Q8G
 have b1:=qdm (z:=(s+t)*e.b / s) Q8G
 have b2:=qdm (z:=(s+t)*f.b / t) Q8G
 rw[a1.1,a1.2,a2.1,a2.2,d1.1,d1.2,d2.1,d2.2,b1.1,b1.2,b2.1,b2.2]
 have wa:IntKind.i64.wrap (jdv ((s+t)*e.a) s+jdv ((s+t)*f.a) t)=jdv ((s+t)*e.a) s+jdv ((s+t)*f.a) t:=jdx _ Q8G Q8G
 have wd:IntKind.i64.wrap (jdv ((s+t)*e.d) s+jdv ((s+t)*f.d) t)=jdv ((s+t)*e.d) s+jdv ((s+t)*f.d) t:=jdx _ Q8G Q8G
 have wb:IntKind.i64.wrap ((s+t)*e.b / s+(s+t)*f.b / t)=(s+t)*e.b / s+(s+t)*f.b / t:=jdx _ Q8G Q8G
 rw[wa,wd,wb]
 exact⟨rfl,rfl,rfl,by decide,jdx _ Q8G Q8G,jdx _ Q8G Q8G⟩
abbrev elE (e:El):Value:=elV e.x e.y e.a e.b e.d
theorem jb4 (e f:El) (h:Hp) (he:e.may) (hf:f.may):qaf prog 206 [elE e,elE f] h (.tuple #[elE (jg4 e f).1,xc (jg4 e f).2]) [] []:=by
 obtain⟨p1,p2,p3,p4,p5,p6⟩:=qwk he hf;have hm:=he;have hn:=hf;unfold El.may jed qax at hm hn;have r1:usq (trP e.x e.y e.a e.b e.d).toNat=e.rad:=(qlo he).1;have r2:usq (trP f.x f.y f.a f.b f.d).toNat=f.rad:=(qlo hf).1;have wx:IntKind.i64.wrap (e.x+f.x)=e.x+f.x:=jdx _ Q8G Q8G;have wy:IntKind.i64.wrap (e.y+f.y)=e.y+f.y:=jdx _ Q8G Q8G;have hiff:(jjn e f).may↔jed (IntKind.i64.wrap (e.x+f.x)) (IntKind.i64.wrap (e.y+f.y)) (IntKind.i64.wrap (puV e.rad f.rad e.a f.a+2)) (plV e.rad f.rad e.b f.b) (IntKind.i64.wrap (puV e.rad f.rad e.d f.d+2)):=by
  rw[wx,wy,p5,p6,p3];exact Iff.rfl
 unfold jg4;rw[if_pos ⟨he,hf⟩];by_cases hmm:(jjn e f).may
 ·rw[if_pos hmm];have hx:=hiff.1 hmm;have:=q8u e.x e.y e.a e.b e.d f.x f.y f.a f.b f.d he hf (by rw[r1,r2];exact p4) (by rw[r1,r2];exact hx);rw[r1,r2,wx,wy,p5,p6,p3] at this;exact qai rfl rfl (call206 _) this
 ·rw[if_neg hmm];have hx:=fun h=>hmm (hiff.2 h)
  exact qai rfl rfl (call206 _) (q8v e.x e.y e.a e.b e.d f.x f.y f.a f.b f.d he hf (by rw[r1,r2];exact p4) (by rw[r1,r2];exact hx))
theorem q0b (e:El) (r:Int) (h:Hp) (he:e.may) (hr:0<=r/\r<=4194304):qaf prog 188 [elE e,xc r] h (.tuple #[elE (qes e r).1,xc (qes e r).2]) [] []:=by
 unfold qes;rw[if_pos ⟨he,hr⟩];by_cases h0:r=0
 ·rw[if_pos h0];exact qai rfl rfl (call188 _) (q30 e.x e.y e.a e.b e.d r he h0)
 ·rw[if_neg h0];have hb:(jd0 0 0 r).may:=(show jed 0 0 (r*r) 0 (r*r) from q32 Q8H Q8G);exact qai rfl rfl (call188 _) (q31 e.x e.y e.a e.b e.d r he Q8G _ _ _ _ _ _ fun h=>jb4 e (jd0 0 0 r) h he hb)
variable {ix:List (Nat×Nat)} {m:Nat}
theorem wz_re {w:Bool} (z:Int):((⟨false,18,[(0,18,wz z)]⟩:Chunk).own=true->(⟨w,18,[(0,18,wz z)]⟩:Chunk).own=true/\m<=(⟨w,18,[(0,18,wz z)]⟩:Chunk).n)/\(⟨false,18,[(0,18,wz z)]⟩:Chunk).n<=(⟨w,18,[(0,18,wz z)]⟩:Chunk).n/\qbb ix ⟨w,18,[(0,18,wz z)]⟩ ⟨false,18,[(0,18,wz z)]⟩:=wi_re _ _ _
theorem qwl (x p y q:Int):qap (.agg ⟨wiL (decide (x<0)) false x.natAbs++(wiL (decide (p<0)) false p.natAbs++(wiL (decide (y<0)) false y.natAbs++(wiL (decide (q<0)) false q.natAbs)))⟩)=true:=by
 have a:=qad x;have b:=qad p;have c:=qad y;have d:=qad q;simp only[qap,wz] at a b c d ⊢;simp only[List.all_append,a,b,c,d,za]
theorem ji0 (x p y q:Int) (i:Nat) (o:Bool) (h:Hp) (hx:x.natAbs<Bs^16) (hp:p.natAbs<Bs^16) (hy:y.natAbs<Bs^16) (hq:q.natAbs<Bs^16) (h1:(x*p).natAbs<Top) (h2:(y*q).natAbs<Top) (h3:(x*p+y*q).natAbs<Top)
  (hi:h[i]?=some (some ⟨o,72,[(0,72,.agg ⟨wiL (decide (x<0)) false x.natAbs++(wiL (decide (p<0)) false p.natAbs++(wiL (decide (y<0)) false y.natAbs++(wiL (decide (q<0)) false q.natAbs)))⟩)]⟩)) :
  qaf prog 211 [.slice (some ⟨i,0,some 0⟩) 4 4] h (wz (x*p+y*q)) [] [i]:=by
 have h0:(0+x*p).natAbs<Top:=by rwa[Int.zero_add]
 have hz:(0:Int).natAbs<Top:=zt Q8H
 have e0:x*p+y*q=0+x*p+y*q:=by rw[Int.zero_add]
 rw[e0] at h3 ⊢
 refine qal (G:=tys) [⟨i,_,⟨false,72,[(0,72,.agg ⟨wiL (decide (x<0)) false x.natAbs++(wiL (decide (p<0)) false p.natAbs++(wiL (decide (y<0)) false y.natAbs++(wiL (decide (q<0)) false q.natAbs)))⟩)]⟩,⟨false,0,[]⟩⟩] [] [.slice (some ⟨0,0,some 0⟩) 4 4] tysOK mixed func211 Q8I (call211) ⟨hi,xb⟩ ⟨qij (qbz (by simp[qhz]) (qwl _ _ _ _)),xb⟩ Q8N xb ⟨.slice rfl,xb⟩ ?_
 repeat' (first|(refine Bb ?_;first|with_reducible (first|refine Ba Q8H ?_|refine Ba (qab _ _ _) ?_|refine Ba (qaa _ _) ?_|refine Bk ?_|refine Ba rfl ?_|refine Ba ⟨by kernel_rfl,by kernel_rfl⟩ ?_|refine Bj ?_|refine Bh ?_)|with_reducible refine Bi ?_)|refine qah Q8I ?_)
 refine Bb ?_
 refine Bu 3 ?_
 repeat' (first|(refine Bb ?_;first|with_reducible (first|refine Ba Q8H ?_|refine Ba (qab _ _ _) ?_|refine Ba (qaa _ _) ?_|refine Bk ?_|refine Ba rfl ?_|refine Ba ⟨by kernel_rfl,by kernel_rfl⟩ ?_|refine Bj ?_|refine Bh ?_|refine Bi ?_)|refine Bm 0 0 Q8H Q8H ?_|refine Bm 1 0 Q8H Q8H ?_|refine Bm 2 0 Q8H Q8H ?_|refine Bm 3 0 Q8H Q8H ?_|refine Bf Q8H ?_|refine Be Q8H ?_|refine Bc (jdu x p _ hx hp h1) ?_|refine Bc (jdu y q _ hy hq h2) ?_|refine Bc (jgt 0 (x*p) _ hz h1 h0) ?_|refine Bc (jgt (0+x*p) (y*q) _ h0 h2 h3) ?_|refine Ba (.plain (qad _)) ?_|refine Ba xb ?_|exact Bg|fail)|refine qah Q8I ?_)
theorem jho (x y p q:Int) (i j:Nat) (w1 w2:Bool) (h:Hp) (hx:x.natAbs<Bs^16) (hp:p.natAbs<Bs^16) (hy:y.natAbs<Bs^16) (hq:q.natAbs<Bs^16) (h1:(x*p).natAbs<Top) (h2:(y*q).natAbs<Top) (h3:(x*p+y*q).natAbs<Top)
  (hi:h[i]?=some (some ⟨w1,18,[(0,18,wz p)]⟩)) (hj:h[j]?=some (some ⟨w2,18,[(0,18,wz q)]⟩)) (hne:i≠j) :
  qaf prog 225 [wz x,wz y,xd i,xd j] h (wz (x*p+y*q)) [] [i,j]:=by
 refine qal (G:=tys) [⟨i,_,⟨false,18,[(0,18,wz p)]⟩,⟨false,0,[]⟩⟩,⟨j,_,⟨false,18,[(0,18,wz q)]⟩,⟨false,0,[]⟩⟩] [] [wz x,wz y,xd 0,xd 1] tysOK mixed func225 Q8I (call225) ⟨hi,hj,xb⟩ ⟨wz_re _,wz_re _,xb⟩ Qaa xb ⟨.plain (qad _),.plain (qad _),.ptr rfl,.ptr rfl,xb⟩ ?_
 repeat' (first|(refine Bb ?_;first|with_reducible (first|refine Ba Q8H ?_|refine Ba (qab _ _ _) ?_|refine Ba (qaa _ _) ?_|refine Bk ?_|refine Ba rfl ?_|refine Ba ⟨by kernel_rfl,by kernel_rfl⟩ ?_|refine Bj ?_|refine Bh ?_|refine Bi ?_)|refine Bc (ji0 x p y q 5 _ _ hx hp hy hq h1 h2 h3 Q8I) ?_|refine Ba (.plain (qad _)) ?_|refine Ba xb ?_|exact Bg|fail)|refine qah Q8I ?_)
def pw (k:Nat):Nat:=2^k
variable {n:Nat}
theorem jn8 (h:m<=n):pw m<=pw n:=xY Q8H h
theorem q59 (m n:Nat):pw (m+n)=pw m*pw n:=yc ..
def Bd (z:Int) (k:Nat):Prop:=z.natAbs<=pw k
theorem Bd.le (h:Bd z m) (hn:m<=n):Bd z n:=xF h (jn8 hn)
theorem Bd.mul (ha:Bd a m) (hb:Bd b n):Bd (a*b) (m+n):=by
 unfold Bd at *;rw[zv,q59];exact yC ha hb
theorem Bd.add (k:Nat) (ha:Bd a m) (hb:Bd b n) (hm:m<=k:=by decide) (hn:n<=k:=by decide):Bd (a+b) (k+1):=by
 have h1:=ha.le hm;have h2:=hb.le hn;unfold Bd at *;rw[q59,show pw 1=2 from rfl];omega
theorem Bd.neg (ha:Bd a m):Bd (-a) m:=by unfold Bd at *;rwa[yG]
theorem Bd.sub (k:Nat) (ha:Bd a m) (hb:Bd b n) (hm:m<=k:=by decide) (hn:n<=k:=by decide):Bd (a-b) (k+1):=by
 rw[Int.sub_eq_add_neg];exact Bd.add k ha hb.neg hm hn
theorem Bd.top {k:Nat} (h:Bd z k) (hk:k<=1022:=by decide):z.natAbs<Top:=xR h (yN Q8H (show k<1023 by omega))
theorem Bd.b16 {k:Nat} (h:Bd z k) (hk:k<=1022:=by decide):z.natAbs<Bs^16:=xC (h.top hk) qbr
theorem Bd.og {k:Nat} (h:z.natAbs<=n) (hk:n<=pw k:=by decide):Bd z k:=xF h hk
structure Inf.bd (i:Inf) (a u z:Nat):Prop where
 A:Bd i.A a
 B:Bd i.B a
 D:Bd i.D a
 U:Bd i.U u
 V:Bd i.V u
 Z:Bd i.Z z
 Den:Bd i.Den z
theorem Inf.bd.le {a u z a' u' z':Nat} (h:i.bd a u z) (h1:a<=a':=by decide) (h2:u<=u':=by decide) (h3:z<=z':=by decide):i.bd a' u' z':=⟨h.A.le h1,h.B.le h1,h.D.le h1,h.U.le h2,h.V.le h2,h.Z.le h3,h.Den.le h3⟩
abbrev jn9 (i:Inf):List Value:=wiL (decide (i.A<0)) false i.A.natAbs++(wiL (decide (i.B<0)) false i.B.natAbs++(wiL (decide (i.D<0)) false i.D.natAbs++(wiL (decide (i.U<0)) false i.U.natAbs++(wiL (decide (i.V<0)) false i.V.natAbs++(wiL (decide (i.Z<0)) false i.Z.natAbs++wiL (decide (i.Den<0)) false i.Den.natAbs)))))
abbrev jfl (i:Inf):Value:=.agg ⟨jn9 i⟩
theorem qba (i:Inf):qap (jfl i)=true:=by
 have a:=qad i.A;have b:=qad i.B;have c:=qad i.D;have d:=qad i.U;have e:=qad i.V;have f:=qad i.Z;have g:=qad i.Den;simp only[qap,wz] at a b c d e f g ⊢;simp only[jn9,List.all_append,a,b,c,d,e,f,g,za]
theorem qcr (i:Inf):flatB (jfl i) 126=true:=by
 have a:=qab (decide (i.A<0)) false i.A.natAbs;have b:=qab (decide (i.B<0)) false i.B.natAbs;have c:=qab (decide (i.D<0)) false i.D.natAbs;have d:=qab (decide (i.U<0)) false i.U.natAbs;have e:=qab (decide (i.V<0)) false i.V.natAbs;have f:=qab (decide (i.Z<0)) false i.Z.natAbs;have g:=qab (decide (i.Den<0)) false i.Den.natAbs;simp only[flatB,xo] at a b c d e f g ⊢;simp only[jn9,List.all_append,xt,qhz,a,b,c,d,e,f,g,za];exact⟨rfl,xb⟩
theorem jlr (z w:Int) (h:Hp) (e:w=z) (h0 : -9223372036854775808<=z) (h1:z<9223372036854775808):qaf prog 98 [xc w] h (wz z) [] []:=by subst e;exact jev w h h0 h1
theorem jpr (hw:0<=w/\w<=34):Bd w 6/\Bd (34-w) 6:=⟨Bd.og (n:=64) Q8G,Bd.og (n:=64) Q8G⟩
theorem jb5 {j:Inf} (hw:0<=w/\w<=34) (hi:i.bd 51 78 105) (hj:j.bd 51 78 105):(jha i j w).bd 163 190 217:=by
 obtain⟨w1,w2⟩:=jpr hw;have p:=w1.mul hj.Den;have q:=w2.mul hi.Den;have m:Bd (34:Int) 6:=Bd.og (n:=64) Q8H;exact⟨Bd.add 162 (hi.A.mul p) (hj.A.mul q),Bd.add 162 (hi.B.mul p) (hj.B.mul q),Bd.add 162 (hi.D.mul p) (hj.D.mul q),Bd.add 189 (hi.U.mul p) (hj.U.mul q),Bd.add 189 (hi.V.mul p) (hj.V.mul q),Bd.add 216 (hi.Z.mul p) (hj.Z.mul q),(m.mul (hi.Den.mul hj.Den)).le Q8H⟩
theorem joa (i j:Inf) (w:Int) (hw:0<=w/\w<=34) (hi:i.bd 51 78 105) (hj:j.bd 51 78 105) (W:World):xa 212 #[jfl i,jfl j,xc w] W (.tuple #[jfl (jha i j w),xc 0]):=by
 obtain⟨w1,w2⟩:=jpr hw;have p:=w1.mul hj.Den;have q:=w2.mul hi.Den;have m:Bd (34:Int) 6:=Bd.og (n:=64) Q8H;have dd:=hi.Den.mul hj.Den;have w34:IntKind.i64.wrap (34-w)=34-w:=jdx _ Q8G Q8G;refine qac (G:=tys) W tysOK mixed func212 Q8I (by simp[qba];rfl) Q9E ?_
 repeat' (first|(refine Bb ?_;first|with_reducible (first|refine Ba Q8H ?_|refine Ba (qab _ _ _) ?_|refine Ba (qaa _ _) ?_|refine Bk ?_|refine Ba rfl ?_|refine Ba ⟨by kernel_rfl,by kernel_rfl⟩ ?_|refine Bj ?_|refine Bh ?_|refine Bi ?_)|refine Ba (qcr _) ?_|refine Be Q8S ?_|refine Bc (jev w _ Q8G Q8G) ?_|refine Bc (jdu w j.Den _ w1.b16 hj.Den.b16 p.top) ?_|refine Bc (jlr (34-w) _ _ w34 Q8G Q8G) ?_|refine Bc (jdu (34-w) i.Den _ w2.b16 hi.Den.b16 q.top) ?_|refine Bc (jev 34 _ Q8H Q8H) ?_|refine Bc (jdu i.Den j.Den _ hi.Den.b16 hj.Den.b16 dd.top) ?_|refine Bc (jdu 34 (i.Den*j.Den) _ m.b16 dd.b16 (m.mul dd).top) ?_|refine Bc (jho i.A j.A (w*j.Den) ((34-w)*i.Den) 11 20 _ _ _ hi.A.b16 p.b16 hj.A.b16 q.b16 (hi.A.mul p).top (hj.A.mul q).top (Bd.add 216 (hi.A.mul p) (hj.A.mul q)).top Q8I Q8I Q8H) ?_|refine Bc (jho i.B j.B (w*j.Den) ((34-w)*i.Den) 11 20 _ _ _ hi.B.b16 p.b16 hj.B.b16 q.b16 (hi.B.mul p).top (hj.B.mul q).top (Bd.add 216 (hi.B.mul p) (hj.B.mul q)).top Q8I Q8I Q8H) ?_|refine Bc (jho i.D j.D (w*j.Den) ((34-w)*i.Den) 11 20 _ _ _ hi.D.b16 p.b16 hj.D.b16 q.b16 (hi.D.mul p).top (hj.D.mul q).top (Bd.add 216 (hi.D.mul p) (hj.D.mul q)).top Q8I Q8I Q8H) ?_|refine Bc (jho i.U j.U (w*j.Den) ((34-w)*i.Den) 11 20 _ _ _ hi.U.b16 p.b16 hj.U.b16 q.b16 (hi.U.mul p).top (hj.U.mul q).top (Bd.add 216 (hi.U.mul p) (hj.U.mul q)).top Q8I Q8I Q8H) ?_|refine Bc (jho i.V j.V (w*j.Den) ((34-w)*i.Den) 11 20 _ _ _ hi.V.b16 p.b16 hj.V.b16 q.b16 (hi.V.mul p).top (hj.V.mul q).top (Bd.add 216 (hi.V.mul p) (hj.V.mul q)).top Q8I Q8I Q8H) ?_|refine Bc (jho i.Z j.Z (w*j.Den) ((34-w)*i.Den) 11 20 _ _ _ hi.Z.b16 p.b16 hj.Z.b16 q.b16 (hi.Z.mul p).top (hj.Z.mul q).top (Bd.add 216 (hi.Z.mul p) (hj.Z.mul q)).top Q8I Q8I Q8H) ?_)|refine qah Q8I ?_)
 all_goals rfl
theorem jqk (i j:Inf) (w:Int) (h:Hp) (hw:0<=w/\w<=34) (hi:i.bd 51 78 105) (hj:j.bd 51 78 105):qaf prog 212 [jfl i,jfl j,xc w] h (.tuple #[jfl (jha i j w),xc 0]) [] []:=
 qai (by simp[qba];rfl) Q9E (call212 _) (joa i j w hw hi hj)
theorem job (a b d:Int) (hm:jfx a b d) (W:World):xa 209 #[.agg #[xc a,xc b,xc d]] W (.agg #[xc d,xc (-b),xc a]):=by
 have hm2:=hm;unfold jfx at hm2;have hb:IntKind.i64.wrap (0-b) = -b:=by rw[jdx _ Q8G Q8G];omega
 refine qac (G:=tys) W tysOK mixed func209 Q8I Q8I Q8I ?_;repeat' (first|(refine Bb ?_;first|with_reducible (first|refine Ba Q8H ?_|refine Ba (qab _ _ _) ?_|refine Ba (qaa _ _) ?_|refine Bk ?_|refine Ba rfl ?_|refine Ba ⟨by kernel_rfl,by kernel_rfl⟩ ?_|refine Bj ?_|refine Bh ?_|refine Bi ?_)|refine Bc (jnv _ _ _ _) ?_|refine Be (ndF hm) ?_)|refine qah Q8I ?_)
 all_goals rw[hb]
theorem jql (a b d:Int) (h:Hp) (hm:jfx a b d):qaf prog 209 [.agg #[xc a,xc b,xc d]] h (.agg #[xc d,xc (-b),xc a]) [] []:=
 qai rfl rfl (call209 _) (job a b d hm)
theorem quw (h:e.may):e.inf.bd 51 78 105:=by
 have hm:=h;unfold El.may jed qax at hm;have a:Bd e.a 46:=Bd.og (n:=70368744177664) Q8G;have b:Bd e.b 46:=Bd.og (n:=70368744177664) Q8G;have d:Bd e.d 46:=Bd.og (n:=70368744177664) Q8G;have x:Bd e.x 22:=Bd.og (n:=4194304) Q8G;have y:Bd e.y 22:=Bd.og (n:=4194304) Q8G;refine⟨d.le Q8H,b.neg.le Q8H,a.le Q8H,(Bd.add 77 (d.mul x) (b.neg.mul y)),(Bd.add 77 (b.neg.mul x) (a.mul y)),?_,?_⟩
 ·show Bd (jel e.d (-e.b) e.a e.x e.y) 105;unfold jel;exact Bd.add 104 (Bd.add 103 (d.mul (x.mul x)) (a.mul (y.mul y))) (Bd.add 103 (b.neg.mul (x.mul y)) (b.neg.mul (x.mul y)))
 ·exact Bd.sub 104 (a.mul d) (b.mul b)
theorem jqm (e:El) (he:e.may) (W:World):xa 191 #[elE e] W (.tuple #[jfl e.inf,xc 0]):=by
 have hm:=he;unfold El.may jed qax at hm;have bd:=quw he;have a:Bd e.a 46:=Bd.og (n:=70368744177664) Q8G;have b:Bd (-e.b) 46:=Bd.og (n:=70368744177664) Q8G;have d:Bd e.d 46:=Bd.og (n:=70368744177664) Q8G;have x:Bd e.x 22:=Bd.og (n:=4194304) Q8G;have y:Bd e.y 22:=Bd.og (n:=4194304) Q8G;refine qac (G:=tys) W tysOK mixed func191 Q8I Q8I Q9E ?_
 repeat' (first|(refine Bb ?_;first|with_reducible (first|refine Ba Q8H ?_|refine Ba (qab _ _ _) ?_|refine Ba (qaa _ _) ?_|refine Bk ?_|refine Ba rfl ?_|refine Ba ⟨by kernel_rfl,by kernel_rfl⟩ ?_|refine Bj ?_|refine Bh ?_|refine Bi ?_)|refine Bc (jd6 _ _ _ _ _ _) ?_|refine Be (ndF he) ?_|refine Bc (jql e.a e.b e.d _ (by unfold jfx;omega)) ?_|refine Bc (jev (e.x) _ Q8G Q8G) ?_|refine Bc (jev (e.y) _ Q8G Q8G) ?_|refine Bc (jev (e.d) _ Q8G Q8G) ?_|refine Bc (jev (-e.b) _ Q8G Q8G) ?_|refine Bc (jev (e.a) _ Q8G Q8G) ?_|refine Bc (jll e.d (-e.b) e.a e.x e.y _ Q8G Q8G Q8G Q8G Q8G) ?_|refine Bc (jpo e.a e.b e.d _ Q8G Q8G Q8G) ?_|refine Bc (ji0 e.d e.x (-e.b) e.y 38 _ _ d.b16 x.b16 b.b16 y.b16 (d.mul x).top (b.mul y).top bd.U.top Q8I) ?_|refine Bc (ji0 (-e.b) e.x e.a e.y 43 _ _ b.b16 x.b16 a.b16 y.b16 (b.mul x).top (a.mul y).top bd.V.top Q8I) ?_)|refine qah Q8I ?_)
 all_goals rfl
theorem joc (e:El) (h:Hp) (he:e.may):qaf prog 191 [elE e] h (.tuple #[jfl e.inf,xc 0]) [] []:=
 qai rfl Q9E (call191 _) (jqm e he)
open Go Go.RowKit Sx
theorem jb6 (x y:Operand) (a b c d:Int):BinIs prog .neq 23 x y (.agg #[xc a,xc b]) (.agg #[xc c,xc d]) (.bool !(a==c&&b==d)):=
 Q8s
theorem qux (x y:Operand) (a b c d:Int):BinIs prog .eql 23 x y (.agg #[xc a,xc b]) (.agg #[xc c,xc d]) (.bool (a==c&&b==d)):=
 Q8s
abbrev stV (s:Strip):Value:=.agg #[xc s.ox,xc s.oy,xc s.hx,xc s.hy,xc s.lo,xc s.hi]
theorem q0c (x y m:Int) (hm:0<=m/\m<=1152921504606846976) (w:World):xa 241 #[.agg #[xc x,xc y],xc m] w (.bool (decide (qax m x y))):=by
 have hw:=jdx (0-m) Q8G Q8G;refine qac (G:=tys) w tysOK mixed func241 Q8I Q8I Q8I ?_;repeat' (refine Bb ?_;first|refine Q55 ?_|with_reducible refine Bp (fun hb=>?_) (fun hb=>?_)|fail)
 all_goals
  refine jfk ?_
  try rw[hw] at *
  simp only[xh,xk,xJ,false_iff,true_iff,iff_true,iff_false,reduceCtorEq,yq,xK,yr,yb] at *
  try try rw[hw] at *
  simp only[qax] at *
  omega
theorem q33 (x y m:Int) (h:Hp) (hm:0<=m/\m<=1152921504606846976):qaf prog 241 [.agg #[xc x,xc y],xc m] h (.bool (decide (qax m x y))) [] []:=
 qai rfl rfl (call241 _) (q0c x y m hm)
theorem qwm (s:Strip) (w:World):xa 219 #[stV s] w (.bool (decide s.may)):=by
 refine qac (G:=tys) w tysOK mixed func219 Q8I Q8I Q8I ?_;repeat' (refine Bb ?_;first|refine Q55 ?_|refine Bc (qgo _ _ _) ?_|refine Bc (q33 _ _ _ _ Q8H) ?_|refine B6 _ (jb6 _ _ _ _ _ _) ?_|with_reducible refine Bp (fun hb=>?_) (fun hb=>?_)|fail)
 all_goals
  refine jfk ?_
  unfold Strip.may
  simp only[xh,xk,xJ,false_iff,true_iff,iff_true,iff_false,reduceCtorEq,yq,xK,yr,yb,zp,Bool.and_eq_false_imp,yj,beq_eq_false_iff_ne,zC,xo,ne_eq] at *
  simp only[qax] at *
  omega
theorem qlp (s:Strip) (h:Hp):qaf prog 219 [stV s] h (.bool (decide s.may)) [] []:=
 qai rfl rfl (call219 _) (qwm s)
theorem q34 (h:s.may):s.inf.bd 51 78 105:=by
 unfold Strip.may qax at h;have hx:Bd (2*s.hx) 25:=Bd.og (n:=33554432) Q8G;have hy:Bd (2*s.hy) 25:=Bd.og (n:=33554432) Q8G;have ox:Bd s.ox 22:=Bd.og (n:=4194304) Q8G;have oy:Bd s.oy 22:=Bd.og (n:=4194304) Q8G;have lh:Bd (s.lo+s.hi) 51:=Bd.og (n:=2251799813685248) Q8G;have ap:Bd (s.hi-s.lo) 51:=Bd.og (n:=2251799813685248) Q8G;have m:Bd (s.lo+s.hi+2*s.hx*s.ox+2*s.hy*s.oy) 52:=by
  have h1:=hx.mul ox;have h2:=hy.mul oy;have e1:pw (25+22)=140737488355328:=rfl;unfold Bd at h1 h2;rw[e1] at h1 h2;refine Bd.og (n:=4503599627370496) ?_;omega
 exact⟨(hx.mul hx).le Q8H,(hx.mul hy).le Q8H,(hy.mul hy).le Q8H,(m.mul hx).le Q8H,(m.mul hy).le Q8H,(m.mul m).le Q8H,(ap.mul ap).le Q8H⟩
theorem q0d (s:Strip) (hs:s.may) (W:World):xa 242 #[stV s] W (.tuple #[jfl s.inf,xc 0]):=by
 have h:=hs;unfold Strip.may qax at h;have hx:Bd (2*s.hx) 25:=Bd.og (n:=33554432) Q8G;have hy:Bd (2*s.hy) 25:=Bd.og (n:=33554432) Q8G;have ox:Bd s.ox 22:=Bd.og (n:=4194304) Q8G;have oy:Bd s.oy 22:=Bd.og (n:=4194304) Q8G;have ap:Bd (s.hi-s.lo) 51:=Bd.og (n:=2251799813685248) Q8G;have h1:=hx.mul ox;have h2:=hy.mul oy;have e1:pw (25+22)=140737488355328:=rfl;unfold Bd at h1 h2;rw[e1] at h1 h2;have mm:(s.lo+s.hi+2*s.hx*s.ox+2*s.hy*s.oy).natAbs<=4503599627370496:=by omega
 have m:Bd (s.lo+s.hi+2*s.hx*s.ox+2*s.hy*s.oy) 52:=Bd.og mm;have w1:IntKind.i64.wrap (2*s.hx)=2*s.hx:=jdx _ Q8G Q8G;have w2:IntKind.i64.wrap (2*s.hy)=2*s.hy:=jdx _ Q8G Q8G;have w3:IntKind.i64.wrap (IntKind.i64.wrap (IntKind.i64.wrap (s.lo+s.hi)+IntKind.i64.wrap (IntKind.i64.wrap (2*s.hx)*s.ox))+IntKind.i64.wrap (IntKind.i64.wrap (2*s.hy)*s.oy))=s.lo+s.hi+2*s.hx*s.ox+2*s.hy*s.oy:=by
  rw[w1,w2,jdx (s.lo+s.hi) Q8G Q8G,jdx (2*s.hx*s.ox) Q8G Q8G,jdx (2*s.hy*s.oy) Q8G Q8G,jdx (s.lo+s.hi+2*s.hx*s.ox) Q8G Q8G,jdx _ Q8G Q8G]
 have w4:IntKind.i64.wrap (s.hi-s.lo)=s.hi-s.lo:=jdx _ Q8G Q8G;refine qac (G:=tys) W tysOK mixed func242 Q8I Q8I Q9E ?_
 repeat' (first|(refine Bb ?_;first|with_reducible (first|refine Ba Q8H ?_|refine Ba (qab _ _ _) ?_|refine Ba (qaa _ _) ?_|refine Bk ?_|refine Ba rfl ?_|refine Ba ⟨by kernel_rfl,by kernel_rfl⟩ ?_|refine Bj ?_|refine Bh ?_|refine Bi ?_)|refine Bc (qlp s _) ?_|refine Be (ndF hs) ?_|refine Bc (jlr (2*s.hx) _ _ w1 Q8G Q8G) ?_|refine Bc (jlr (2*s.hy) _ _ w2 Q8G Q8G) ?_|refine Bc (jlr (s.lo+s.hi+2*s.hx*s.ox+2*s.hy*s.oy) _ _ w3 Q8G Q8G) ?_|refine Bc (jlr (s.hi-s.lo) _ _ w4 Q8G Q8G) ?_|refine Bc (jdu (2*s.hx) (2*s.hx) _ hx.b16 hx.b16 (hx.mul hx).top) ?_|refine Bc (jdu (2*s.hx) (2*s.hy) _ hx.b16 hy.b16 (hx.mul hy).top) ?_|refine Bc (jdu (2*s.hy) (2*s.hy) _ hy.b16 hy.b16 (hy.mul hy).top) ?_|refine Bc (jdu (s.lo+s.hi+2*s.hx*s.ox+2*s.hy*s.oy) (2*s.hx) _ m.b16 hx.b16 (m.mul hx).top) ?_|refine Bc (jdu (s.lo+s.hi+2*s.hx*s.ox+2*s.hy*s.oy) (2*s.hy) _ m.b16 hy.b16 (m.mul hy).top) ?_|refine Bc (jdu (s.lo+s.hi+2*s.hx*s.ox+2*s.hy*s.oy) (s.lo+s.hi+2*s.hx*s.ox+2*s.hy*s.oy) _ m.b16 m.b16 (m.mul m).top) ?_|refine Bc (jdu (s.hi-s.lo) (s.hi-s.lo) _ ap.b16 ap.b16 (ap.mul ap).top) ?_)|refine qah Q8I ?_)
 all_goals rfl
theorem q35 (s:Strip) (h:Hp) (hs:s.may):qaf prog 242 [stV s] h (.tuple #[jfl s.inf,xc 0]) [] []:=
 qai rfl Q9E (call242 _) (q0d s hs)
theorem q8w (i:Inf) (D:Int) (hi:i.bd 163 190 217) (hD:Bd D 327) (W:World):xa 226 #[jfl i,wz D] W (wz ((i.Den-i.Z)*D+((i.D*(i.U*i.U)+i.A*(i.V*i.V)) + -(2*(i.B*(i.U*i.V)))))):=by
 have a:=hi.A;have b:=hi.B;have d:=hi.D;have u:=hi.U;have v:=hi.V;have two:Bd (2:Int) 1:=Bd.og (n:=2) Q8H;have uu:=u.mul u;have vv:=v.mul v;have uv:=u.mul v;have buv:=b.mul uv;have b2:=two.mul buv;have duu:=d.mul uu;have avv:=a.mul vv;have sq:=Bd.add 543 duu avv;have dz:=Bd.sub 217 hi.Den hi.Z;have dzd:=dz.mul hD;have sb:=Bd.add 544 sq b2.neg;have lv:=Bd.add 545 dzd sb;refine qac (G:=tys) W tysOK mixed func226 Q8I (by simp[qba,qad]) (qaj _) ?_
 repeat' (first|(refine Bb ?_;first|with_reducible (first|refine Ba Q8H ?_|refine Ba (qab _ _ _) ?_|refine Ba (qaa _ _) ?_|refine Bk ?_|refine Ba rfl ?_|refine Ba ⟨by kernel_rfl,by kernel_rfl⟩ ?_|refine Bj ?_|refine Bh ?_|refine Bi ?_)|refine Ba (qcr _) ?_|refine Bc (jdu (i.U) (i.U) _ u.b16 u.b16 (u.mul u).top) ?_|refine Bc (jdu (i.V) (i.V) _ v.b16 v.b16 (v.mul v).top) ?_|refine Bc (jdu (i.U) (i.V) _ u.b16 v.b16 (u.mul v).top) ?_|refine Bc (jdu (i.B) (i.U*i.V) _ b.b16 uv.b16 (b.mul uv).top) ?_|refine Bc (jdu (2) (i.B*(i.U*i.V)) _ two.b16 buv.b16 (two.mul buv).top) ?_|refine Bc (jdu (i.Den-i.Z) (D) _ dz.b16 hD.b16 (dz.mul hD).top) ?_|refine Bc (jev 2 _ Q8H Q8H) ?_|refine Bc (ji0 i.D (i.U*i.U) i.A (i.V*i.V) 11 _ _ d.b16 uu.b16 a.b16 vv.b16 duu.top avv.top sq.top Q8I) ?_|refine Bc (jeg i.Den i.Z _ hi.Den.top hi.Z.top dz.top) ?_|refine Bc (jhv (2*(i.B*(i.U*i.V))) _ b2.top) ?_|refine Bc (jgt (i.D*(i.U*i.U)+i.A*(i.V*i.V)) (-(2*(i.B*(i.U*i.V)))) _ sq.top b2.neg.top sb.top) ?_|refine Bc (jgt ((i.Den-i.Z)*D) (i.D*(i.U*i.U)+i.A*(i.V*i.V) + -(2*(i.B*(i.U*i.V)))) _ dzd.top sb.top lv.top) ?_)|refine qah Q8I ?_)
 all_goals rfl
theorem qjz (i:Inf) (D:Int) (h:Hp) (hi:i.bd 163 190 217) (hD:Bd D 327):qaf prog 226 [jfl i,wz D] h (wz ((i.Den-i.Z)*D+((i.D*(i.U*i.U)+i.A*(i.V*i.V)) + -(2*(i.B*(i.U*i.V)))))) [] []:=
 qai (by simp[qba,qad]) (qaj _) (call226 _) (q8w i D hi hD)
theorem qwn (z0 z1 z2 z3 z4 z5 z6:Int):qap (.agg ⟨wiL (decide (z0<0)) false (z0).natAbs++(wiL (decide (z1<0)) false (z1).natAbs++(wiL (decide (z2<0)) false (z2).natAbs++(wiL (decide (z3<0)) false (z3).natAbs++(wiL (decide (z4<0)) false (z4).natAbs++(wiL (decide (z5<0)) false (z5).natAbs++(wiL (decide (z6<0)) false (z6).natAbs))))))⟩)=true:=by
 have a0:=qad z0;have a1:=qad z1;have a2:=qad z2;have a3:=qad z3;have a4:=qad z4;have a5:=qad z5;have a6:=qad z6;simp only[qap,wz] at a0 a1 a2 a3 a4 a5 a6 ⊢;simp only[List.all_append,a0,a1,a2,a3,a4,a5,a6,za]
theorem jb7 (z0 z1 z2 z3 z4 z5 z6:Int) (i:Nat) (o:Bool) (h:Hp) (hi:h[i]?=some (some ⟨o,126,[(0,126,.agg ⟨wiL (decide (z0<0)) false (z0).natAbs++(wiL (decide (z1<0)) false (z1).natAbs++(wiL (decide (z2<0)) false (z2).natAbs++(wiL (decide (z3<0)) false (z3).natAbs++(wiL (decide (z4<0)) false (z4).natAbs++(wiL (decide (z5<0)) false (z5).natAbs++(wiL (decide (z6<0)) false (z6).natAbs))))))⟩)]⟩)) :
  qaf prog 228 [.slice (some ⟨i,0,some 0⟩) 7 7] h (.bool false) [] [i]:=by
 refine qal (G:=tys) [⟨i,_,⟨false,126,[(0,126,.agg ⟨wiL (decide (z0<0)) false (z0).natAbs++(wiL (decide (z1<0)) false (z1).natAbs++(wiL (decide (z2<0)) false (z2).natAbs++(wiL (decide (z3<0)) false (z3).natAbs++(wiL (decide (z4<0)) false (z4).natAbs++(wiL (decide (z5<0)) false (z5).natAbs++(wiL (decide (z6<0)) false (z6).natAbs))))))⟩)]⟩,⟨false,0,[]⟩⟩] [] [.slice (some ⟨0,0,some 0⟩) 7 7] tysOK mixed func228 Q8I (call228) ⟨hi,xb⟩ ⟨qij (qbz (by simp[qhz]) (qwn _ _ _ _ _ _ _)),xb⟩ Q8N xb ⟨.slice rfl,xb⟩ ?_
 repeat' (first|(refine Bb ?_;first|with_reducible (first|refine Ba Q8H ?_|refine Ba (qab _ _ _) ?_|refine Ba (qaa _ _) ?_|refine Bk ?_|refine Ba rfl ?_|refine Ba ⟨by kernel_rfl,by kernel_rfl⟩ ?_|refine Bj ?_|refine Bh ?_)|with_reducible refine Bi ?_)|refine qah Q8I ?_)
 refine Bb ?_
 refine Bu 8 ?_
 repeat' (first|(refine Bb ?_;first|with_reducible (first|refine Ba Q8H ?_|refine Ba (qab _ _ _) ?_|refine Ba (qaa _ _) ?_|refine Bk ?_|refine Ba rfl ?_|refine Ba ⟨by kernel_rfl,by kernel_rfl⟩ ?_|refine Bj ?_|refine Bh ?_|refine Bi ?_)|refine Bm 0 0 Q8H Q8H ?_|refine Bm 1 0 Q8H Q8H ?_|refine Bm 2 0 Q8H Q8H ?_|refine Bm 3 0 Q8H Q8H ?_|refine Bm 4 0 Q8H Q8H ?_|refine Bm 5 0 Q8H Q8H ?_|refine Bm 6 0 Q8H Q8H ?_|refine Bf Q8H ?_|refine Be Q8H ?_|refine Bc (qd9 z0 _) ?_|refine Bc (qd9 z1 _) ?_|refine Bc (qd9 z2 _) ?_|refine Bc (qd9 z3 _) ?_|refine Bc (qd9 z4 _) ?_|refine Bc (qd9 z5 _) ?_|refine Bc (qd9 z6 _) ?_|refine Ba (.plain rfl) ?_|refine Ba xb ?_|exact Bg|fail)|refine qah Q8I ?_)
theorem qwo (z0 z1 z2 z3 z4 z5 z6 z7:Int):qap (.agg ⟨wiL (decide (z0<0)) false (z0).natAbs++(wiL (decide (z1<0)) false (z1).natAbs++(wiL (decide (z2<0)) false (z2).natAbs++(wiL (decide (z3<0)) false (z3).natAbs++(wiL (decide (z4<0)) false (z4).natAbs++(wiL (decide (z5<0)) false (z5).natAbs++(wiL (decide (z6<0)) false (z6).natAbs++(wiL (decide (z7<0)) false (z7).natAbs)))))))⟩)=true:=by
 have a0:=qad z0;have a1:=qad z1;have a2:=qad z2;have a3:=qad z3;have a4:=qad z4;have a5:=qad z5;have a6:=qad z6;have a7:=qad z7;simp only[qap,wz] at a0 a1 a2 a3 a4 a5 a6 a7 ⊢;simp only[List.all_append,a0,a1,a2,a3,a4,a5,a6,a7,za]
theorem qj0 (z0 z1 z2 z3 z4 z5 z6 z7:Int) (i:Nat) (o:Bool) (h:Hp) (hi:h[i]?=some (some ⟨o,144,[(0,144,.agg ⟨wiL (decide (z0<0)) false (z0).natAbs++(wiL (decide (z1<0)) false (z1).natAbs++(wiL (decide (z2<0)) false (z2).natAbs++(wiL (decide (z3<0)) false (z3).natAbs++(wiL (decide (z4<0)) false (z4).natAbs++(wiL (decide (z5<0)) false (z5).natAbs++(wiL (decide (z6<0)) false (z6).natAbs++(wiL (decide (z7<0)) false (z7).natAbs)))))))⟩)]⟩)) :
  qaf prog 228 [.slice (some ⟨i,0,some 0⟩) 8 8] h (.bool false) [] [i]:=by
 refine qal (G:=tys) [⟨i,_,⟨false,144,[(0,144,.agg ⟨wiL (decide (z0<0)) false (z0).natAbs++(wiL (decide (z1<0)) false (z1).natAbs++(wiL (decide (z2<0)) false (z2).natAbs++(wiL (decide (z3<0)) false (z3).natAbs++(wiL (decide (z4<0)) false (z4).natAbs++(wiL (decide (z5<0)) false (z5).natAbs++(wiL (decide (z6<0)) false (z6).natAbs++(wiL (decide (z7<0)) false (z7).natAbs)))))))⟩)]⟩,⟨false,0,[]⟩⟩] [] [.slice (some ⟨0,0,some 0⟩) 8 8] tysOK mixed func228 Q8I (call228) ⟨hi,xb⟩ ⟨qij (qbz (by simp[qhz]) (qwo _ _ _ _ _ _ _ _)),xb⟩ Q8N xb ⟨.slice rfl,xb⟩ ?_
 repeat' (first|(refine Bb ?_;first|with_reducible (first|refine Ba Q8H ?_|refine Ba (qab _ _ _) ?_|refine Ba (qaa _ _) ?_|refine Bk ?_|refine Ba rfl ?_|refine Ba ⟨by kernel_rfl,by kernel_rfl⟩ ?_|refine Bj ?_|refine Bh ?_)|with_reducible refine Bi ?_)|refine qah Q8I ?_)
 refine Bb ?_
 refine Bu 9 ?_
 repeat' (first|(refine Bb ?_;first|with_reducible (first|refine Ba Q8H ?_|refine Ba (qab _ _ _) ?_|refine Ba (qaa _ _) ?_|refine Bk ?_|refine Ba rfl ?_|refine Ba ⟨by kernel_rfl,by kernel_rfl⟩ ?_|refine Bj ?_|refine Bh ?_|refine Bi ?_)|refine Bm 0 0 Q8H Q8H ?_|refine Bm 1 0 Q8H Q8H ?_|refine Bm 2 0 Q8H Q8H ?_|refine Bm 3 0 Q8H Q8H ?_|refine Bm 4 0 Q8H Q8H ?_|refine Bm 5 0 Q8H Q8H ?_|refine Bm 6 0 Q8H Q8H ?_|refine Bm 7 0 Q8H Q8H ?_|refine Bf Q8H ?_|refine Be Q8H ?_|refine Bc (qd9 z0 _) ?_|refine Bc (qd9 z1 _) ?_|refine Bc (qd9 z2 _) ?_|refine Bc (qd9 z3 _) ?_|refine Bc (qd9 z4 _) ?_|refine Bc (qd9 z5 _) ?_|refine Bc (qd9 z6 _) ?_|refine Bc (qd9 z7 _) ?_|refine Ba (.plain rfl) ?_|refine Ba xb ?_|exact Bg|fail)|refine qah Q8I ?_)
theorem jod (i:Inf) (W:World):xa 227 #[jfl i] W (.bool false):=by
 refine qac (G:=tys) W tysOK mixed func227 Q8I (by simp[qba]) rfl ?_;repeat' (first|(refine Bb ?_;first|with_reducible (first|refine Ba Q8H ?_|refine Ba (qab _ _ _) ?_|refine Ba (qaa _ _) ?_|refine Bk ?_|refine Ba rfl ?_|refine Ba ⟨by kernel_rfl,by kernel_rfl⟩ ?_|refine Bj ?_|refine Bh ?_|refine Bi ?_)|refine Ba (qcr _) ?_|refine Bc (jb7 i.A i.B i.D i.U i.V i.Z i.Den 1 _ _ Q8I) ?_)|refine qah Q8I ?_)
 all_goals rfl
theorem jjo (i:Inf) (h:Hp):qaf prog 227 [jfl i] h (.bool false) [] []:=
 qai (by simp[qba]) rfl (call227 _) (jod i)
theorem jmo (a b bad z e:Int) (k:Nat) (h:Hp) (ha:a.natAbs<Top) (ha2:(a+a).natAbs<Top) (ha3:(a+a+b).natAbs<Top) (hb0:0<b) (hbb:b.natAbs<Top) (hb2:(b+b).natAbs<Top) (hz:n64 (jdy a b)=z) (he:max bad (e64 (jdy a b))=e) (hk:h[k]?=some (some (gc bad))) :
  qaf prog 229 [fnV 230,wz a,wz b,xd k] h (xc z) [(k,gc e)] []:=by
 subst hz he
 refine qal (G:=tys) [⟨k,_,gc bad,gc (max bad (e64 (jdy a b)))⟩] [] [fnV 230,wz a,wz b,xd 0] tysOK mixed func229 Q8I (call229) ⟨hk,xb⟩ ⟨Q7v,xb⟩ Q8N xb Q7W ?_
 repeat' (first|(refine Bb ?_;first|with_reducible (first|refine Ba Q8H ?_|refine Ba (qab _ _ _) ?_|refine Ba (qaa _ _) ?_|refine Bk ?_|refine Ba rfl ?_|refine Ba ⟨by kernel_rfl,by kernel_rfl⟩ ?_|refine Bj ?_|refine Bh ?_|refine Bi ?_)|refine Bc (jb3 a b _ ha ha2 ha3 hb0 hbb hb2) ?_|with_reducible refine N.max2 ?_|refine Ba (.plain Q8I) ?_|refine Ba Q74 ?_|refine Ba xb ?_|exact Bg|fail)|refine qah Q8I ?_)
theorem jmp (a b bad z e:Int) (k:Nat) (h:Hp) (ha:a.natAbs<Top) (hb0:0<b) (hbb:b.natAbs<Top) (hz:n64 (jdv a b)=z) (he:max bad (e64 (jdv a b))=e) (hk:h[k]?=some (some (gc bad))) :
  qaf prog 229 [fnV 231,wz a,wz b,xd k] h (xc z) [(k,gc e)] []:=by
 subst hz he
 refine qal (G:=tys) [⟨k,_,gc bad,gc (max bad (e64 (jdv a b)))⟩] [] [fnV 231,wz a,wz b,xd 0] tysOK mixed func229 Q8I (call229) ⟨hk,xb⟩ ⟨Q7v,xb⟩ Q8N xb Q7W ?_
 repeat' (first|(refine Bb ?_;first|with_reducible (first|refine Ba Q8H ?_|refine Ba (qab _ _ _) ?_|refine Ba (qaa _ _) ?_|refine Bk ?_|refine Ba rfl ?_|refine Ba ⟨by kernel_rfl,by kernel_rfl⟩ ?_|refine Bj ?_|refine Bh ?_|refine Bi ?_)|refine Bc (jb2 a b _ ha hb0 hbb) ?_|with_reducible refine N.max2 ?_|refine Ba (.plain Q8I) ?_|refine Ba Q74 ?_|refine Ba xb ?_|exact Bg|fail)|refine qah Q8I ?_)
theorem jps (a b bad z e:Int) (k:Nat) (h:Hp) (ha:a.natAbs<Top) (hb0:0<b) (hbb:b.natAbs<Top) (hz:n64 (a / b)=z) (he:max bad (e64 (a / b))=e) (hk:h[k]?=some (some (gc bad))) :
  qaf prog 229 [fnV 232,wz a,wz b,xd k] h (xc z) [(k,gc e)] []:=by
 subst hz he
 refine qal (G:=tys) [⟨k,_,gc bad,gc (max bad (e64 (a / b)))⟩] [] [fnV 232,wz a,wz b,xd 0] tysOK mixed func229 Q8I (call229) ⟨hk,xb⟩ ⟨Q7v,xb⟩ Q8N xb Q7W ?_
 repeat' (first|(refine Bb ?_;first|with_reducible (first|refine Ba Q8H ?_|refine Ba (qab _ _ _) ?_|refine Ba (qaa _ _) ?_|refine Bk ?_|refine Ba rfl ?_|refine Ba ⟨by kernel_rfl,by kernel_rfl⟩ ?_|refine Bj ?_|refine Bh ?_|refine Bi ?_)|refine Bc (qzz a b _ ha hb0 hbb) ?_|with_reducible refine N.max2 ?_|refine Ba (.plain Q8I) ?_|refine Ba Q74 ?_|refine Ba xb ?_|exact Bg|fail)|refine qah Q8I ?_)
theorem q8x (e:El) (r a d:Int) (h:Hp) (ha:a=e.a) (hd:d=e.d) (he:e.may) (hr:0<=r/\r<=4194304):qaf prog 188 [elV e.x e.y a e.b d,xc r] h (.tuple #[elE (qes e r).1,xc (qes e r).2]) [] []:=by
 subst ha hd;exact q0b e r h he hr
theorem qjn (z:Int):sgn z<0↔z<0:=by unfold sgn;split<;>(try split)<;>omega
theorem qi0 (z:Int):sgn z<=0↔z<=0:=by unfold sgn;split<;>(try split)<;>omega
theorem jb8 (i:Inf) (hi:i.bd 163 190 217) (h:i.A<=0\/i.d<=0) (W:World):xa 213 #[jfl i] W (.tuple #[elE El.o,xc 1]):=by
 have hB:=hi;have bA:=hi.A;have bB:=hi.B;have bD:=hi.D;have bU:=hi.U;have bV:=hi.V;have ad:=bA.mul bD;have bb:=bB.mul bB;have dB:Bd (i.A*i.D-i.B*i.B) 327:=Bd.sub 326 ad bb;have du:=bD.mul bU;have bv:=bB.mul bV;have xB:Bd (i.D*i.U-i.B*i.V) 354:=Bd.sub 353 du bv;have av:=bA.mul bV;have bu:=bB.mul bU;have yB:Bd (i.A*i.V-i.B*i.U) 354:=Bd.sub 353 av bu;have lB:Bd ((i.Den-i.Z)*(i.A*i.D-i.B*i.B)+((i.D*(i.U*i.U)+i.A*(i.V*i.V)) + -(2*(i.B*(i.U*i.V))))) 546:=Q1u;have eD:i.A*i.D-i.B*i.B=i.d:=rfl;have eX:i.D*i.U-i.B*i.V=i.x:=rfl;have eY:i.A*i.V-i.B*i.U=i.y:=rfl;have eL:(i.Den-i.Z)*i.d+((i.D*(i.U*i.U)+i.A*(i.V*i.V)) + -(2*(i.B*(i.U*i.V))))=i.level:=rfl;rw[eD] at dB lB;rw[eX] at xB;rw[eY] at yB;rw[eL] at lB;have sB:=dB.mul dB;have pB:=lB.mul bD;have qB:=lB.mul bA;have rB:=lB.mul bB;have x2:=Bd.add 354 xB xB;have x3:=Bd.add 355 x2 dB;have y2:=Bd.add 354 yB yB;have y3:=Bd.add 355 y2 dB
 have d2:=Bd.add 327 dB dB;refine Q27 ?_;by_cases hA:i.A<=0
 ·repeat' (first|(refine Bb ?_;first|with_reducible (first|refine Ba Q8H ?_|refine Ba (qab _ _ _) ?_|refine Ba (qaa _ _) ?_|refine Bk ?_|refine Ba rfl ?_|refine Ba ⟨by kernel_rfl,by kernel_rfl⟩ ?_|refine Bj ?_|refine Bh ?_|refine Bi ?_)|refine Bc (jdu (i.A) (i.D) _ bA.b16 bD.b16 (bA.mul bD).top) ?_|refine Bc (jdu (i.B) (i.B) _ bB.b16 bB.b16 (bB.mul bB).top) ?_|refine Bc (jeg (i.A*i.D) (i.B*i.B) _ ad.top bb.top dB.top) ?_|refine Bc (jdu (i.D) (i.U) _ bD.b16 bU.b16 (bD.mul bU).top) ?_|refine Bc (jdu (i.B) (i.V) _ bB.b16 bV.b16 (bB.mul bV).top) ?_|refine Bc (jeg (i.D*i.U) (i.B*i.V) _ du.top bv.top xB.top) ?_|refine Bc (jdu (i.A) (i.V) _ bA.b16 bV.b16 (bA.mul bV).top) ?_|refine Bc (jdu (i.B) (i.U) _ bB.b16 bU.b16 (bB.mul bU).top) ?_|refine Bc (jeg (i.A*i.V) (i.B*i.U) _ av.top bu.top yB.top) ?_|refine Bc (qjz i i.d _ hi dB) ?_|refine Bc (jdu (i.d) (i.d) _ dB.b16 dB.b16 (dB.mul dB).top) ?_|refine Bc (jdu (i.level) (i.D) _ lB.b16 bD.b16 (lB.mul bD).top) ?_|refine Bc (jdu (i.level) (i.A) _ lB.b16 bA.b16 (lB.mul bA).top) ?_|refine Bc (jdu (i.level) (i.B) _ lB.b16 bB.b16 (lB.mul bB).top) ?_|refine Bc (jhv (i.level*i.B) _ rB.top) ?_|refine Bc (jjo i _) ?_|refine Bc Q6I ?_|refine Bc (jeh i.A _ bA.top) ?_|refine Bc (jeh i.d _ dB.top) ?_|refine Bc (jeh i.level _ lB.top) ?_|refine Ba (qcr _) ?_|refine Bf (by rw[xh,qi0];exact hA) ?_)|refine qah Q8I ?_)
  all_goals rfl
 ·have hd:i.d<=0:=by omega
  repeat' (first|(refine Bb ?_;first|with_reducible (first|refine Ba Q8H ?_|refine Ba (qab _ _ _) ?_|refine Ba (qaa _ _) ?_|refine Bk ?_|refine Ba rfl ?_|refine Ba ⟨by kernel_rfl,by kernel_rfl⟩ ?_|refine Bj ?_|refine Bh ?_|refine Bi ?_)|refine Bc (jdu (i.A) (i.D) _ bA.b16 bD.b16 (bA.mul bD).top) ?_|refine Bc (jdu (i.B) (i.B) _ bB.b16 bB.b16 (bB.mul bB).top) ?_|refine Bc (jeg (i.A*i.D) (i.B*i.B) _ ad.top bb.top dB.top) ?_|refine Bc (jdu (i.D) (i.U) _ bD.b16 bU.b16 (bD.mul bU).top) ?_|refine Bc (jdu (i.B) (i.V) _ bB.b16 bV.b16 (bB.mul bV).top) ?_|refine Bc (jeg (i.D*i.U) (i.B*i.V) _ du.top bv.top xB.top) ?_|refine Bc (jdu (i.A) (i.V) _ bA.b16 bV.b16 (bA.mul bV).top) ?_|refine Bc (jdu (i.B) (i.U) _ bB.b16 bU.b16 (bB.mul bU).top) ?_|refine Bc (jeg (i.A*i.V) (i.B*i.U) _ av.top bu.top yB.top) ?_|refine Bc (qjz i i.d _ hi dB) ?_|refine Bc (jdu (i.d) (i.d) _ dB.b16 dB.b16 (dB.mul dB).top) ?_|refine Bc (jdu (i.level) (i.D) _ lB.b16 bD.b16 (lB.mul bD).top) ?_|refine Bc (jdu (i.level) (i.A) _ lB.b16 bA.b16 (lB.mul bA).top) ?_|refine Bc (jdu (i.level) (i.B) _ lB.b16 bB.b16 (lB.mul bB).top) ?_|refine Bc (jhv (i.level*i.B) _ rB.top) ?_|refine Bc (jjo i _) ?_|refine Bc Q6I ?_|refine Bc (jeh i.A _ bA.top) ?_|refine Bc (jeh i.d _ dB.top) ?_|refine Bc (jeh i.level _ lB.top) ?_|refine Ba (qcr _) ?_|refine Be (by rw[xk,qi0];exact hA) ?_|refine Bf (by rw[xh,qi0];exact hd) ?_)|refine qah Q8I ?_)
  all_goals rfl
theorem jb9 (i:Inf) (hi:i.bd 163 190 217) (hA:0<i.A) (hd:0<i.d) (hl:i.level<0) (W:World):xa 213 #[jfl i] W (.tuple #[elE El.o,xc 3]):=by
 have hB:=hi;have bA:=hi.A;have bB:=hi.B;have bD:=hi.D;have bU:=hi.U;have bV:=hi.V;have ad:=bA.mul bD;have bb:=bB.mul bB;have dB:Bd (i.A*i.D-i.B*i.B) 327:=Bd.sub 326 ad bb;have du:=bD.mul bU;have bv:=bB.mul bV;have xB:Bd (i.D*i.U-i.B*i.V) 354:=Bd.sub 353 du bv;have av:=bA.mul bV;have bu:=bB.mul bU;have yB:Bd (i.A*i.V-i.B*i.U) 354:=Bd.sub 353 av bu;have lB:Bd ((i.Den-i.Z)*(i.A*i.D-i.B*i.B)+((i.D*(i.U*i.U)+i.A*(i.V*i.V)) + -(2*(i.B*(i.U*i.V))))) 546:=Q1u;have eD:i.A*i.D-i.B*i.B=i.d:=rfl;have eX:i.D*i.U-i.B*i.V=i.x:=rfl;have eY:i.A*i.V-i.B*i.U=i.y:=rfl;have eL:(i.Den-i.Z)*i.d+((i.D*(i.U*i.U)+i.A*(i.V*i.V)) + -(2*(i.B*(i.U*i.V))))=i.level:=rfl;rw[eD] at dB lB;rw[eX] at xB;rw[eY] at yB;rw[eL] at lB;have sB:=dB.mul dB;have pB:=lB.mul bD;have qB:=lB.mul bA;have rB:=lB.mul bB;have x2:=Bd.add 354 xB xB;have x3:=Bd.add 355 x2 dB;have y2:=Bd.add 354 yB yB;have y3:=Bd.add 355 y2 dB
 have d2:=Bd.add 327 dB dB;refine Q27 ?_
 repeat' (first|(refine Bb ?_;first|with_reducible (first|refine Ba Q8H ?_|refine Ba (qab _ _ _) ?_|refine Ba (qaa _ _) ?_|refine Bk ?_|refine Ba rfl ?_|refine Ba ⟨by kernel_rfl,by kernel_rfl⟩ ?_|refine Bj ?_|refine Bh ?_|refine Bi ?_)|refine Bc (jdu (i.A) (i.D) _ bA.b16 bD.b16 (bA.mul bD).top) ?_|refine Bc (jdu (i.B) (i.B) _ bB.b16 bB.b16 (bB.mul bB).top) ?_|refine Bc (jeg (i.A*i.D) (i.B*i.B) _ ad.top bb.top dB.top) ?_|refine Bc (jdu (i.D) (i.U) _ bD.b16 bU.b16 (bD.mul bU).top) ?_|refine Bc (jdu (i.B) (i.V) _ bB.b16 bV.b16 (bB.mul bV).top) ?_|refine Bc (jeg (i.D*i.U) (i.B*i.V) _ du.top bv.top xB.top) ?_|refine Bc (jdu (i.A) (i.V) _ bA.b16 bV.b16 (bA.mul bV).top) ?_|refine Bc (jdu (i.B) (i.U) _ bB.b16 bU.b16 (bB.mul bU).top) ?_|refine Bc (jeg (i.A*i.V) (i.B*i.U) _ av.top bu.top yB.top) ?_|refine Bc (qjz i i.d _ hi dB) ?_|refine Bc (jdu (i.d) (i.d) _ dB.b16 dB.b16 (dB.mul dB).top) ?_|refine Bc (jdu (i.level) (i.D) _ lB.b16 bD.b16 (lB.mul bD).top) ?_|refine Bc (jdu (i.level) (i.A) _ lB.b16 bA.b16 (lB.mul bA).top) ?_|refine Bc (jdu (i.level) (i.B) _ lB.b16 bB.b16 (lB.mul bB).top) ?_|refine Bc (jhv (i.level*i.B) _ rB.top) ?_|refine Bc (jjo i _) ?_|refine Bc Q6I ?_|refine Bc (jeh i.A _ bA.top) ?_|refine Bc (jeh i.d _ dB.top) ?_|refine Bc (jeh i.level _ lB.top) ?_|refine Ba (qcr _) ?_|refine Be Q9a ?_|refine Bf (by rw[xh,qjn];exact hl) ?_)|refine qah Q8I ?_)
 all_goals rfl
theorem jca (i:Inf) (hi:i.bd 163 190 217) (hA:0<i.A) (hd:0<i.d) (hl:¬ i.level<0) (hm:i.mid.may) (W:World):xa 213 #[jfl i] W (.tuple #[elE (qes i.mid 1).1,xc (qes i.mid 1).2]):=by
 have hB:=hi;have bA:=hi.A;have bB:=hi.B;have bD:=hi.D;have bU:=hi.U;have bV:=hi.V;have ad:=bA.mul bD;have bb:=bB.mul bB;have dB:Bd (i.A*i.D-i.B*i.B) 327:=Bd.sub 326 ad bb;have du:=bD.mul bU;have bv:=bB.mul bV;have xB:Bd (i.D*i.U-i.B*i.V) 354:=Bd.sub 353 du bv;have av:=bA.mul bV;have bu:=bB.mul bU;have yB:Bd (i.A*i.V-i.B*i.U) 354:=Bd.sub 353 av bu;have lB:Bd ((i.Den-i.Z)*(i.A*i.D-i.B*i.B)+((i.D*(i.U*i.U)+i.A*(i.V*i.V)) + -(2*(i.B*(i.U*i.V))))) 546:=Q1u;have eD:i.A*i.D-i.B*i.B=i.d:=rfl;have eX:i.D*i.U-i.B*i.V=i.x:=rfl;have eY:i.A*i.V-i.B*i.U=i.y:=rfl;have eL:(i.Den-i.Z)*i.d+((i.D*(i.U*i.U)+i.A*(i.V*i.V)) + -(2*(i.B*(i.U*i.V))))=i.level:=rfl;rw[eD] at dB lB;rw[eX] at xB;rw[eY] at yB;rw[eL] at lB;have sB:=dB.mul dB;have pB:=lB.mul bD;have qB:=lB.mul bA;have rB:=lB.mul bB;have x2:=Bd.add 354 xB xB;have x3:=Bd.add 355 x2 dB;have y2:=Bd.add 354 yB yB;have y3:=Bd.add 355 y2 dB
 have d2:=Bd.add 327 dB dB;have sP:0<i.d*i.d:=Int.mul_pos hd hd;have hmm:=hm;unfold El.may jed qax Inf.mid at hmm;simp only[] at hmm;have r1 : -9223372036854775808<=(jdy i.x i.d)/\(jdy i.x i.d)<9223372036854775808:=by omega
 have r2 : -9223372036854775808<=(jdy i.y i.d)/\(jdy i.y i.d)<9223372036854775808:=by omega
 have r3 : -9223372036854775808<=(jdv (i.level*i.D) (i.d*i.d))/\(jdv (i.level*i.D) (i.d*i.d))<9223372036854775808:=by omega
 have r4 : -9223372036854775808<=(jdv (i.level*i.A) (i.d*i.d))/\(jdv (i.level*i.A) (i.d*i.d))<9223372036854775808:=by omega
 have r5 : -9223372036854775808<=(-(i.level*i.B) / (i.d*i.d))/\(-(i.level*i.B) / (i.d*i.d))<9223372036854775808:=by omega
 have c1:=qdm r1;have c2:=qdm r2;have c3:=qdm r3;have c4:=qdm r4;have c5:=qdm r5;have z1:=c1.1;have b1:max 0 (e64 (jdy i.x i.d))=0:=by rw[c1.2];rfl
 have z2:=c2.1;have b2:max 0 (e64 (jdy i.y i.d))=0:=by rw[c2.2];rfl
 have z3:=c3.1;have b3:max 0 (e64 (jdv (i.level*i.D) (i.d*i.d)))=0:=by rw[c3.2];rfl
 have z4:=c4.1;have b4:max 0 (e64 (jdv (i.level*i.A) (i.d*i.d)))=0:=by rw[c4.2];rfl
 have z5:=c5.1;have b5:max 0 (e64 (-(i.level*i.B) / (i.d*i.d)))=0:=by rw[c5.2];rfl
 have wp:IntKind.i64.wrap (jdv (i.level*i.D) (i.d*i.d)+1)=jdv (i.level*i.D) (i.d*i.d)+1:=jdx _ Q8G Q8G;have wq:IntKind.i64.wrap (jdv (i.level*i.A) (i.d*i.d)+1)=jdv (i.level*i.A) (i.d*i.d)+1:=jdx _ Q8G Q8G;refine Q27 ?_
 repeat' (first|(refine Bb ?_;first|with_reducible (first|refine Ba Q8H ?_|refine Ba (qab _ _ _) ?_|refine Ba (qaa _ _) ?_|refine Bk ?_|refine Ba rfl ?_|refine Ba ⟨by kernel_rfl,by kernel_rfl⟩ ?_|refine Bj ?_|refine Bh ?_|refine Bi ?_)|refine Bc (jdu (i.A) (i.D) _ bA.b16 bD.b16 (bA.mul bD).top) ?_|refine Bc (jdu (i.B) (i.B) _ bB.b16 bB.b16 (bB.mul bB).top) ?_|refine Bc (jeg (i.A*i.D) (i.B*i.B) _ ad.top bb.top dB.top) ?_|refine Bc (jdu (i.D) (i.U) _ bD.b16 bU.b16 (bD.mul bU).top) ?_|refine Bc (jdu (i.B) (i.V) _ bB.b16 bV.b16 (bB.mul bV).top) ?_|refine Bc (jeg (i.D*i.U) (i.B*i.V) _ du.top bv.top xB.top) ?_|refine Bc (jdu (i.A) (i.V) _ bA.b16 bV.b16 (bA.mul bV).top) ?_|refine Bc (jdu (i.B) (i.U) _ bB.b16 bU.b16 (bB.mul bU).top) ?_|refine Bc (jeg (i.A*i.V) (i.B*i.U) _ av.top bu.top yB.top) ?_|refine Bc (qjz i i.d _ hi dB) ?_|refine Bc (jdu (i.d) (i.d) _ dB.b16 dB.b16 (dB.mul dB).top) ?_|refine Bc (jdu (i.level) (i.D) _ lB.b16 bD.b16 (lB.mul bD).top) ?_|refine Bc (jdu (i.level) (i.A) _ lB.b16 bA.b16 (lB.mul bA).top) ?_|refine Bc (jdu (i.level) (i.B) _ lB.b16 bB.b16 (lB.mul bB).top) ?_|refine Bc (jhv (i.level*i.B) _ rB.top) ?_|refine Bc (jjo i _) ?_|refine Bc Q6I ?_|refine Bc (jeh i.A _ bA.top) ?_|refine Bc (jeh i.d _ dB.top) ?_|refine Bc (jeh i.level _ lB.top) ?_|refine Ba (qcr _) ?_|refine Be Q9a ?_|refine Be Q9f ?_|refine Bc Q7g ?_|refine Bc Q7f ?_|refine Bc Q79 ?_|refine Bc Q7b ?_|refine Bc Q75 ?_|refine Be Q8H ?_|refine Be Q8S ?_|refine Bc (jd6 _ _ _ _ _ _) ?_|refine Be (by rw[wp,wq];exact ndF hm) ?_|refine Bc (q8x i.mid 1 _ _ _ wp wq hm Q8H) ?_)|refine qah Q8I ?_)
 all_goals rfl
theorem jh8 (z:Int):((-9223372036854775808<=z/\z<9223372036854775808)/\e64 z=0)\/(¬ (-9223372036854775808<=z/\z<9223372036854775808))/\e64 z=2:=by
 by_cases h : -9223372036854775808<=z/\z<9223372036854775808
 ·exact .inl ⟨h,(qdm h).2⟩
 ·right;refine⟨h,?_⟩;have:=(qy8 h).1;unfold e64;rw[this];rfl
theorem jcb (i:Inf) (hi:i.bd 163 190 217) (hA:0<i.A) (hd:0<i.d) (hl:¬ i.level<0) (hm:¬ i.mid.may) (W:World):xa 213 #[jfl i] W (.tuple #[elE El.o,xc 2]):=by
 have hB:=hi;have bA:=hi.A;have bB:=hi.B;have bD:=hi.D;have bU:=hi.U;have bV:=hi.V;have ad:=bA.mul bD;have bb:=bB.mul bB;have dB:Bd (i.A*i.D-i.B*i.B) 327:=Bd.sub 326 ad bb;have du:=bD.mul bU;have bv:=bB.mul bV;have xB:Bd (i.D*i.U-i.B*i.V) 354:=Bd.sub 353 du bv;have av:=bA.mul bV;have bu:=bB.mul bU;have yB:Bd (i.A*i.V-i.B*i.U) 354:=Bd.sub 353 av bu;have lB:Bd ((i.Den-i.Z)*(i.A*i.D-i.B*i.B)+((i.D*(i.U*i.U)+i.A*(i.V*i.V)) + -(2*(i.B*(i.U*i.V))))) 546:=Q1u;have eD:i.A*i.D-i.B*i.B=i.d:=rfl;have eX:i.D*i.U-i.B*i.V=i.x:=rfl;have eY:i.A*i.V-i.B*i.U=i.y:=rfl;have eL:(i.Den-i.Z)*i.d+((i.D*(i.U*i.U)+i.A*(i.V*i.V)) + -(2*(i.B*(i.U*i.V))))=i.level:=rfl;rw[eD] at dB lB;rw[eX] at xB;rw[eY] at yB;rw[eL] at lB;have sB:=dB.mul dB;have pB:=lB.mul bD;have qB:=lB.mul bA;have rB:=lB.mul bB;have x2:=Bd.add 354 xB xB;have x3:=Bd.add 355 x2 dB;have y2:=Bd.add 354 yB yB;have y3:=Bd.add 355 y2 dB
 have d2:=Bd.add 327 dB dB;have sP:0<i.d*i.d:=Int.mul_pos hd hd;by_cases hbad:max (max (max (max (max 0 (e64 (jdy i.x i.d))) (e64 (jdy i.y i.d))) (e64 (jdv (i.level*i.D) (i.d*i.d)))) (e64 (jdv (i.level*i.A) (i.d*i.d)))) (e64 (-(i.level*i.B) / (i.d*i.d)))=0
 ·have k1:=jh8 (jdy i.x i.d);have k2:=jh8 (jdy i.y i.d);have k3:=jh8 (jdv (i.level*i.D) (i.d*i.d));have k4:=jh8 (jdv (i.level*i.A) (i.d*i.d));have k5:=jh8 (-(i.level*i.B) / (i.d*i.d));have r1 : -9223372036854775808<=(jdy i.x i.d)/\(jdy i.x i.d)<9223372036854775808:=by omega
  have r2 : -9223372036854775808<=(jdy i.y i.d)/\(jdy i.y i.d)<9223372036854775808:=by omega
  have r3 : -9223372036854775808<=(jdv (i.level*i.D) (i.d*i.d))/\(jdv (i.level*i.D) (i.d*i.d))<9223372036854775808:=by omega
  have r4 : -9223372036854775808<=(jdv (i.level*i.A) (i.d*i.d))/\(jdv (i.level*i.A) (i.d*i.d))<9223372036854775808:=by omega
  have r5 : -9223372036854775808<=(-(i.level*i.B) / (i.d*i.d))/\(-(i.level*i.B) / (i.d*i.d))<9223372036854775808:=by omega
  have c1:=qdm r1;have c2:=qdm r2;have c3:=qdm r3;have c4:=qdm r4;have c5:=qdm r5;have z1:=c1.1;have b1:max 0 (e64 (jdy i.x i.d))=0:=by rw[c1.2];rfl
  have z2:=c2.1;have b2:max 0 (e64 (jdy i.y i.d))=0:=by rw[c2.2];rfl
  have z3:=c3.1;have b3:max 0 (e64 (jdv (i.level*i.D) (i.d*i.d)))=0:=by rw[c3.2];rfl
  have z4:=c4.1;have b4:max 0 (e64 (jdv (i.level*i.A) (i.d*i.d)))=0:=by rw[c4.2];rfl
  have z5:=c5.1;have b5:max 0 (e64 (-(i.level*i.B) / (i.d*i.d)))=0:=by rw[c5.2];rfl
  by_cases hp:70368744177664<=jdv (i.level*i.D) (i.d*i.d)
  ·refine Q27 ?_
   repeat' (first|(refine Bb ?_;first|with_reducible (first|refine Ba Q8H ?_|refine Ba (qab _ _ _) ?_|refine Ba (qaa _ _) ?_|refine Bk ?_|refine Ba rfl ?_|refine Ba ⟨by kernel_rfl,by kernel_rfl⟩ ?_|refine Bj ?_|refine Bh ?_|refine Bi ?_)|refine Bc (jdu (i.A) (i.D) _ bA.b16 bD.b16 (bA.mul bD).top) ?_|refine Bc (jdu (i.B) (i.B) _ bB.b16 bB.b16 (bB.mul bB).top) ?_|refine Bc (jeg (i.A*i.D) (i.B*i.B) _ ad.top bb.top dB.top) ?_|refine Bc (jdu (i.D) (i.U) _ bD.b16 bU.b16 (bD.mul bU).top) ?_|refine Bc (jdu (i.B) (i.V) _ bB.b16 bV.b16 (bB.mul bV).top) ?_|refine Bc (jeg (i.D*i.U) (i.B*i.V) _ du.top bv.top xB.top) ?_|refine Bc (jdu (i.A) (i.V) _ bA.b16 bV.b16 (bA.mul bV).top) ?_|refine Bc (jdu (i.B) (i.U) _ bB.b16 bU.b16 (bB.mul bU).top) ?_|refine Bc (jeg (i.A*i.V) (i.B*i.U) _ av.top bu.top yB.top) ?_|refine Bc (qjz i i.d _ hi dB) ?_|refine Bc (jdu (i.d) (i.d) _ dB.b16 dB.b16 (dB.mul dB).top) ?_|refine Bc (jdu (i.level) (i.D) _ lB.b16 bD.b16 (lB.mul bD).top) ?_|refine Bc (jdu (i.level) (i.A) _ lB.b16 bA.b16 (lB.mul bA).top) ?_|refine Bc (jdu (i.level) (i.B) _ lB.b16 bB.b16 (lB.mul bB).top) ?_|refine Bc (jhv (i.level*i.B) _ rB.top) ?_|refine Bc (jjo i _) ?_|refine Bc Q6I ?_|refine Bc (jeh i.A _ bA.top) ?_|refine Bc (jeh i.d _ dB.top) ?_|refine Bc (jeh i.level _ lB.top) ?_|refine Ba (qcr _) ?_|refine Be Q9a ?_|refine Be Q9f ?_|refine Bc Q7g ?_|refine Bc Q7f ?_|refine Bc Q79 ?_|refine Bc Q7b ?_|refine Bc Q75 ?_|refine Be Q8H ?_|refine Bf (by rw[xh];exact hp) ?_)|refine qah Q8I ?_)
   all_goals rfl
  by_cases hq:70368744177664<=jdv (i.level*i.A) (i.d*i.d)
  ·refine Q27 ?_
   repeat' (first|(refine Bb ?_;first|with_reducible (first|refine Ba Q8H ?_|refine Ba (qab _ _ _) ?_|refine Ba (qaa _ _) ?_|refine Bk ?_|refine Ba rfl ?_|refine Ba ⟨by kernel_rfl,by kernel_rfl⟩ ?_|refine Bj ?_|refine Bh ?_|refine Bi ?_)|refine Bc (jdu (i.A) (i.D) _ bA.b16 bD.b16 (bA.mul bD).top) ?_|refine Bc (jdu (i.B) (i.B) _ bB.b16 bB.b16 (bB.mul bB).top) ?_|refine Bc (jeg (i.A*i.D) (i.B*i.B) _ ad.top bb.top dB.top) ?_|refine Bc (jdu (i.D) (i.U) _ bD.b16 bU.b16 (bD.mul bU).top) ?_|refine Bc (jdu (i.B) (i.V) _ bB.b16 bV.b16 (bB.mul bV).top) ?_|refine Bc (jeg (i.D*i.U) (i.B*i.V) _ du.top bv.top xB.top) ?_|refine Bc (jdu (i.A) (i.V) _ bA.b16 bV.b16 (bA.mul bV).top) ?_|refine Bc (jdu (i.B) (i.U) _ bB.b16 bU.b16 (bB.mul bU).top) ?_|refine Bc (jeg (i.A*i.V) (i.B*i.U) _ av.top bu.top yB.top) ?_|refine Bc (qjz i i.d _ hi dB) ?_|refine Bc (jdu (i.d) (i.d) _ dB.b16 dB.b16 (dB.mul dB).top) ?_|refine Bc (jdu (i.level) (i.D) _ lB.b16 bD.b16 (lB.mul bD).top) ?_|refine Bc (jdu (i.level) (i.A) _ lB.b16 bA.b16 (lB.mul bA).top) ?_|refine Bc (jdu (i.level) (i.B) _ lB.b16 bB.b16 (lB.mul bB).top) ?_|refine Bc (jhv (i.level*i.B) _ rB.top) ?_|refine Bc (jjo i _) ?_|refine Bc Q6I ?_|refine Bc (jeh i.A _ bA.top) ?_|refine Bc (jeh i.d _ dB.top) ?_|refine Bc (jeh i.level _ lB.top) ?_|refine Ba (qcr _) ?_|refine Be Q9a ?_|refine Be Q9f ?_|refine Bc Q7g ?_|refine Bc Q7f ?_|refine Bc Q79 ?_|refine Bc Q7b ?_|refine Bc Q75 ?_|refine Be Q8H ?_|refine Be (by rw[xk];exact hp) ?_|refine Bf (by rw[xh];exact hq) ?_)|refine qah Q8I ?_)
   all_goals rfl
  ·have wp:IntKind.i64.wrap (jdv (i.level*i.D) (i.d*i.d)+1)=jdv (i.level*i.D) (i.d*i.d)+1:=jdx _ Q8G Q8G;have wq:IntKind.i64.wrap (jdv (i.level*i.A) (i.d*i.d)+1)=jdv (i.level*i.A) (i.d*i.d)+1:=jdx _ Q8G Q8G;refine Q27 ?_
   repeat' (first|(refine Bb ?_;first|with_reducible (first|refine Ba Q8H ?_|refine Ba (qab _ _ _) ?_|refine Ba (qaa _ _) ?_|refine Bk ?_|refine Ba rfl ?_|refine Ba ⟨by kernel_rfl,by kernel_rfl⟩ ?_|refine Bj ?_|refine Bh ?_|refine Bi ?_)|refine Bc (jdu (i.A) (i.D) _ bA.b16 bD.b16 (bA.mul bD).top) ?_|refine Bc (jdu (i.B) (i.B) _ bB.b16 bB.b16 (bB.mul bB).top) ?_|refine Bc (jeg (i.A*i.D) (i.B*i.B) _ ad.top bb.top dB.top) ?_|refine Bc (jdu (i.D) (i.U) _ bD.b16 bU.b16 (bD.mul bU).top) ?_|refine Bc (jdu (i.B) (i.V) _ bB.b16 bV.b16 (bB.mul bV).top) ?_|refine Bc (jeg (i.D*i.U) (i.B*i.V) _ du.top bv.top xB.top) ?_|refine Bc (jdu (i.A) (i.V) _ bA.b16 bV.b16 (bA.mul bV).top) ?_|refine Bc (jdu (i.B) (i.U) _ bB.b16 bU.b16 (bB.mul bU).top) ?_|refine Bc (jeg (i.A*i.V) (i.B*i.U) _ av.top bu.top yB.top) ?_|refine Bc (qjz i i.d _ hi dB) ?_|refine Bc (jdu (i.d) (i.d) _ dB.b16 dB.b16 (dB.mul dB).top) ?_|refine Bc (jdu (i.level) (i.D) _ lB.b16 bD.b16 (lB.mul bD).top) ?_|refine Bc (jdu (i.level) (i.A) _ lB.b16 bA.b16 (lB.mul bA).top) ?_|refine Bc (jdu (i.level) (i.B) _ lB.b16 bB.b16 (lB.mul bB).top) ?_|refine Bc (jhv (i.level*i.B) _ rB.top) ?_|refine Bc (jjo i _) ?_|refine Bc Q6I ?_|refine Bc (jeh i.A _ bA.top) ?_|refine Bc (jeh i.d _ dB.top) ?_|refine Bc (jeh i.level _ lB.top) ?_|refine Ba (qcr _) ?_|refine Be Q9a ?_|refine Be Q9f ?_|refine Bc Q7g ?_|refine Bc Q7f ?_|refine Bc Q79 ?_|refine Bc Q7b ?_|refine Bc Q75 ?_|refine Be Q8H ?_|refine Be Q8S ?_|refine Bc (jd6 _ _ _ _ _ _) ?_|refine Bf (by rw[wp,wq];exact ndT hm) ?_)|refine qah Q8I ?_)
   all_goals rfl
 ·have z1:=rfl (a:=n64 (jdy i.x i.d));have z2:=rfl (a:=n64 (jdy i.y i.d));have z3:=rfl (a:=n64 (jdv (i.level*i.D) (i.d*i.d)));have z4:=rfl (a:=n64 (jdv (i.level*i.A) (i.d*i.d)));have z5:=rfl (a:=n64 (-(i.level*i.B) / (i.d*i.d)));have b1:=rfl (a:=(max 0 (e64 (jdy i.x i.d))));have b2:=rfl (a:=(max (max 0 (e64 (jdy i.x i.d))) (e64 (jdy i.y i.d))));have b3:=rfl (a:=(max (max (max 0 (e64 (jdy i.x i.d))) (e64 (jdy i.y i.d))) (e64 (jdv (i.level*i.D) (i.d*i.d)))));have b4:=rfl (a:=(max (max (max (max 0 (e64 (jdy i.x i.d))) (e64 (jdy i.y i.d))) (e64 (jdv (i.level*i.D) (i.d*i.d)))) (e64 (jdv (i.level*i.A) (i.d*i.d)))));have b5:=rfl (a:=(max (max (max (max (max 0 (e64 (jdy i.x i.d))) (e64 (jdy i.y i.d))) (e64 (jdv (i.level*i.D) (i.d*i.d)))) (e64 (jdv (i.level*i.A) (i.d*i.d)))) (e64 (-(i.level*i.B) / (i.d*i.d)))));refine Q27 ?_
  repeat' (first|(refine Bb ?_;first|with_reducible (first|refine Ba Q8H ?_|refine Ba (qab _ _ _) ?_|refine Ba (qaa _ _) ?_|refine Bk ?_|refine Ba rfl ?_|refine Ba ⟨by kernel_rfl,by kernel_rfl⟩ ?_|refine Bj ?_|refine Bh ?_|refine Bi ?_)|refine Bc (jdu (i.A) (i.D) _ bA.b16 bD.b16 (bA.mul bD).top) ?_|refine Bc (jdu (i.B) (i.B) _ bB.b16 bB.b16 (bB.mul bB).top) ?_|refine Bc (jeg (i.A*i.D) (i.B*i.B) _ ad.top bb.top dB.top) ?_|refine Bc (jdu (i.D) (i.U) _ bD.b16 bU.b16 (bD.mul bU).top) ?_|refine Bc (jdu (i.B) (i.V) _ bB.b16 bV.b16 (bB.mul bV).top) ?_|refine Bc (jeg (i.D*i.U) (i.B*i.V) _ du.top bv.top xB.top) ?_|refine Bc (jdu (i.A) (i.V) _ bA.b16 bV.b16 (bA.mul bV).top) ?_|refine Bc (jdu (i.B) (i.U) _ bB.b16 bU.b16 (bB.mul bU).top) ?_|refine Bc (jeg (i.A*i.V) (i.B*i.U) _ av.top bu.top yB.top) ?_|refine Bc (qjz i i.d _ hi dB) ?_|refine Bc (jdu (i.d) (i.d) _ dB.b16 dB.b16 (dB.mul dB).top) ?_|refine Bc (jdu (i.level) (i.D) _ lB.b16 bD.b16 (lB.mul bD).top) ?_|refine Bc (jdu (i.level) (i.A) _ lB.b16 bA.b16 (lB.mul bA).top) ?_|refine Bc (jdu (i.level) (i.B) _ lB.b16 bB.b16 (lB.mul bB).top) ?_|refine Bc (jhv (i.level*i.B) _ rB.top) ?_|refine Bc (jjo i _) ?_|refine Bc Q6I ?_|refine Bc (jeh i.A _ bA.top) ?_|refine Bc (jeh i.d _ dB.top) ?_|refine Bc (jeh i.level _ lB.top) ?_|refine Ba (qcr _) ?_|refine Be Q9a ?_|refine Be Q9f ?_|refine Bc (jmo i.x i.d 0 (n64 (jdy i.x i.d)) (max 0 (e64 (jdy i.x i.d))) 75 _ xB.top x2.top x3.top hd dB.top d2.top z1 b1 Q8I) ?_|refine Bc (jmo i.y i.d (max 0 (e64 (jdy i.x i.d))) (n64 (jdy i.y i.d)) (max (max 0 (e64 (jdy i.x i.d))) (e64 (jdy i.y i.d))) 75 _ yB.top y2.top y3.top hd dB.top d2.top z2 b2 Q8I) ?_|refine Bc (jmp (i.level*i.D) (i.d*i.d) (max (max 0 (e64 (jdy i.x i.d))) (e64 (jdy i.y i.d))) (n64 (jdv (i.level*i.D) (i.d*i.d))) (max (max (max 0 (e64 (jdy i.x i.d))) (e64 (jdy i.y i.d))) (e64 (jdv (i.level*i.D) (i.d*i.d)))) 75 _ pB.top sP sB.top z3 b3 Q8I) ?_|refine Bc (jmp (i.level*i.A) (i.d*i.d) (max (max (max 0 (e64 (jdy i.x i.d))) (e64 (jdy i.y i.d))) (e64 (jdv (i.level*i.D) (i.d*i.d)))) (n64 (jdv (i.level*i.A) (i.d*i.d))) (max (max (max (max 0 (e64 (jdy i.x i.d))) (e64 (jdy i.y i.d))) (e64 (jdv (i.level*i.D) (i.d*i.d)))) (e64 (jdv (i.level*i.A) (i.d*i.d)))) 75 _ qB.top sP sB.top z4 b4 Q8I) ?_|refine Bc (jps (-(i.level*i.B)) (i.d*i.d) (max (max (max (max 0 (e64 (jdy i.x i.d))) (e64 (jdy i.y i.d))) (e64 (jdv (i.level*i.D) (i.d*i.d)))) (e64 (jdv (i.level*i.A) (i.d*i.d)))) (n64 (-(i.level*i.B) / (i.d*i.d))) (max (max (max (max (max 0 (e64 (jdy i.x i.d))) (e64 (jdy i.y i.d))) (e64 (jdv (i.level*i.D) (i.d*i.d)))) (e64 (jdv (i.level*i.A) (i.d*i.d)))) (e64 (-(i.level*i.B) / (i.d*i.d)))) 75 _ rB.neg.top sP sB.top z5 b5 Q8I) ?_|refine Bf (neT hbad) ?_)|refine qah Q8I ?_)
  all_goals rfl
theorem jqn (i:Inf) (h:Hp) (hi:i.bd 163 190 217):qaf prog 213 [jfl i] h (.tuple #[elE (ellF i).1,xc (ellF i).2]) [] []:=by
 refine qai (by simp[qba]) rfl (call213 _) fun W=>?_
 unfold ellF;by_cases h1:i.A<=0\/i.d<=0
 ·rw[if_pos h1];exact jb8 i hi h1 W
 rw[if_neg h1];by_cases h2:i.level<0
 ·rw[if_pos h2];exact jb9 i hi Q8G Q8G h2 W
 rw[if_neg h2];by_cases h3:i.mid.may
 ·rw[if_pos h3];exact jca i hi Q8G Q8G h2 h3 W
 ·rw[if_neg h3];exact jcb i hi Q8G Q8G h2 h3 W
theorem q8y (i j:Inf) (w:Int) (hw:0<=w/\w<=34) (hi:i.bd 51 78 105) (hj:j.bd 51 78 105) (W:World):xa 192 #[jfl i,jfl j,xc w,xc 0] W (.tuple #[elE (ellF (jha i j w)).1,xc (ellF (jha i j w)).2]):=by
 have mb:=jb5 hw hi hj;refine qac (G:=tys) W tysOK mixed func192 Q8I (by simp[qba];exact⟨rfl,rfl⟩) Q8I ?_;repeat' (first|(refine Bb ?_;first|with_reducible (first|refine Ba Q8H ?_|refine Ba (qab _ _ _) ?_|refine Ba (qaa _ _) ?_|refine Bk ?_|refine Ba rfl ?_|refine Ba ⟨by kernel_rfl,by kernel_rfl⟩ ?_|refine Bj ?_|refine Bh ?_|refine Bi ?_)|refine Ba (qcr _) ?_|refine Bc (jqk i j w _ hw hi hj) ?_|refine Be Q8H ?_|refine Bc (jqn (jha i j w) _ mb) ?_)|refine qah Q8I ?_)
 all_goals rfl
theorem q6a (i j:Inf) (w:Int) (h:Hp) (hw:0<=w/\w<=34) (hi:i.bd 51 78 105) (hj:j.bd 51 78 105):qaf prog 192 [jfl i,jfl j,xc w,xc 0] h (.tuple #[elE (ellF (jha i j w)).1,xc (ellF (jha i j w)).2]) [] []:=
 qai (by simp[qba];exact⟨rfl,rfl⟩) rfl (call192 _) (q8y i j w hw hi hj)
theorem q8z (e f:El) (w:Int) (hw:0<=w/\w<=34) (he:e.may) (hf:f.may) (W:World):xa 167 #[elE e,elE f,xc w] W (.tuple #[elE (fuseW e f w).1,xc (fuseW e f w).2]):=by
 unfold fuseW;rw[if_pos hw];refine qac (G:=tys) W tysOK mixed func167 Q8I Q8I Q8I ?_;repeat' (first|(refine Bb ?_;first|with_reducible (first|refine Ba Q8H ?_|refine Ba (qab _ _ _) ?_|refine Ba (qaa _ _) ?_|refine Bk ?_|refine Ba rfl ?_|refine Ba ⟨by kernel_rfl,by kernel_rfl⟩ ?_|refine Bj ?_|refine Bh ?_|refine Bi ?_)|refine Ba (qcr _) ?_|refine Bc (joc e _ he) ?_|refine Bc (joc f _ hf) ?_|with_reducible refine N.max2 ?_|refine Bc (q6a e.inf f.inf w _ hw (quw he) (quw hf)) ?_)|refine qah Q8I ?_)
 all_goals rfl
theorem jcc (e f:El) (w:Int) (h:Hp) (hw:0<=w/\w<=34) (he:e.may) (hf:f.may):qaf prog 167 [elE e,elE f,xc w] h (.tuple #[elE (fuseW e f w).1,xc (fuseW e f w).2]) [] []:=
 qai rfl rfl (call167 _) (q8z e f w hw he hf)
theorem jcd (e:El) (s:Strip) (w:Int) (hw:0<=w/\w<=34) (he:e.may) (hs:s.may) (W:World):xa 221 #[elE e,stV s,xc w] W (.tuple #[elE (cutW e s w).1,xc (cutW e s w).2]):=by
 unfold cutW;rw[if_pos hw];refine qac (G:=tys) W tysOK mixed func221 Q8I Q8I Q8I ?_;repeat' (first|(refine Bb ?_;first|with_reducible (first|refine Ba Q8H ?_|refine Ba (qab _ _ _) ?_|refine Ba (qaa _ _) ?_|refine Bk ?_|refine Ba rfl ?_|refine Ba ⟨by kernel_rfl,by kernel_rfl⟩ ?_|refine Bj ?_|refine Bh ?_|refine Bi ?_)|refine Ba (qcr _) ?_|refine Bc (joc e _ he) ?_|refine Bc (q35 s _ hs) ?_|with_reducible refine N.max2 ?_|refine Bc (q6a e.inf s.inf w _ hw (quw he) (q34 hs)) ?_)|refine qah Q8I ?_)
 all_goals rfl
theorem joe (e:El) (s:Strip) (w:Int) (h:Hp) (hw:0<=w/\w<=34) (he:e.may) (hs:s.may):qaf prog 221 [elE e,stV s,xc w] h (.tuple #[elE (cutW e s w).1,xc (cutW e s w).2]) [] []:=
 qai rfl rfl (call221 _) (jcd e s w hw he hs)
open Go Go.RowKit Sx
def qdn (e:El) (x y:Int):Int:=(usq (jel e.a e.b e.d x y).toNat:Nat)
def jfy (lo hi:Int):Prop:=0<=lo/\lo<=hi/\hi<=4194304
instance (lo hi:Int):Decidable (jfy lo hi):=by unfold jfy;infer_instance
def jg5 (h w k m:Int):Int:=if 0<h-w then (if 0<h*m*m-k*k then max (h-w) (isq (h*m*m-k*k).toNat:Nat) else h-w) else h-w
def jgi (h w far:Int):Int:=min (h+w) (usq (h*far*far).toNat:Nat)
def jek (e n:El) (lo hi:Int):Strip:=
 ⟨n.x,n.y,e.x-n.x,e.y-n.y,jg5 ((e.x-n.x)*(e.x-n.x)+(e.y-n.y)*(e.y-n.y)) (qdn e (e.x-n.x) (e.y-n.y)) (qdn e (-(e.y-n.y)) (e.x-n.x)) (max 0 (lo-n.rad)),jgi ((e.x-n.x)*(e.x-n.x)+(e.y-n.y)*(e.y-n.y)) (qdn e (e.x-n.x) (e.y-n.y)) (hi+n.rad)⟩
def jd7 (e n:El) (lo hi:Int):Strip×Int:=
 if ¬ (e.may/\n.may/\jfy lo hi) then (⟨0,0,0,0,0,0⟩,1)
 else if e.x-n.x=0/\e.y-n.y=0 then (⟨0,0,0,0,0,0⟩,7)
 else if (jek e n lo hi).hi<(jek e n lo hi).lo then (⟨0,0,0,0,0,0⟩,3)
 else if (jek e n lo hi).hi=(jek e n lo hi).lo then ({ jek e n lo hi with hi:=(jek e n lo hi).hi+1 },0)
 else (jek e n lo hi,0)
def nearF (e n:El) (hi:Int):El×Int:=
 if 1<=hi+n.rad/\hi+n.rad<=4194304 then (if (fuseF e (jd0 n.x n.y (hi+n.rad))).2=3 then (El.o,3) else if (fuseF e (jd0 n.x n.y (hi+n.rad))).2=0 then ((fuseF e (jd0 n.x n.y (hi+n.rad))).1,0) else (e,0)) else (e,0)
def qcf (e n:El) (lo hi:Int):El×Int:=
 if (jd7 e n lo hi).2=3 then (El.o,3) else if (jd7 e n lo hi).2=0 then (if (cutF e (jd7 e n lo hi).1).2=3 then (El.o,3) else if (cutF e (jd7 e n lo hi).1).2=0 then ((cutF e (jd7 e n lo hi).1).1,0) else (e,0)) else (e,0)
def qb1 (e n:El) (lo hi:Int):El×Int:=
 if e.may/\n.may/\jfy lo hi then (if (nearF e n hi).2=3 then (El.o,3) else qcf (nearF e n hi).1 n lo hi) else (El.o,1)
def qbo (n:El) (hi:Int):El×Int:=
 if n.may/\0<=hi/\hi<=4194304 then (if 4194304<hi+n.rad then (El.o,2) else (jd0 n.x n.y (max 1 (hi+n.rad)),0)) else (El.o,1)
structure Fil where
 most:Int
 valid:Bool
 e:El
def Fil.set (f:Fil) (e:El):Fil:=if e.may/\e.tr<=f.most then ⟨f.most,true,e⟩ else f
def Fil.took (f:Fil) (r:El×Int):Fil:=if r.2=0 then ⟨f.most,f.valid,r.1⟩ else if r.2=3 then ⟨f.most,false,El.o⟩ else f
def Fil.range (f:Fil) (n:El) (lo hi:Int):Fil:=
 if f.valid then f.took (qb1 f.e n lo hi) else if (qbo n hi).2=0 then f.set (qbo n hi).1 else f
def Fil.meet (f:Fil) (e:El):Fil:=if f.valid then f.took (fuseF f.e e) else f.set e
def qbc (t:Int):Prop:=0<=t/\t<=1000000
instance (t:Int):Decidable (qbc t):=by unfold qbc;infer_instance
def qeu (w now skew:Int):Int:=if qbc w/\qbc now/\qbc skew then max 0 (now-w)+2*skew+1 else 0
def qb2 (e:El) (w now speed skew:Int):El×Int:=if e.may/\qbc w/\qbc now/\qbc skew/\0<=speed/\speed<=4194304 then jga e speed (qeu w now skew) else (El.o,1)
def qev (old fresh:El):El×Int:=if fresh.may then (if (fuseF old fresh).2=0 then ((fuseF old fresh).1,0) else (fresh,0)) else (El.o,1)
theorem trf (h:e.may):e.tr=e.a+e.d:=by unfold El.tr;rw[if_pos h]
theorem q6b (h:e.may) (hp:e.at X Y):(X-e.x)*(X-e.x)+(Y-e.y)*(Y-e.y)<=e.rad*e.rad:=by
 have h1:=qmw e.tr.toNat;have h2:=trf h;have h3:=hp.1;have h4:=hp.2.1;have hm:=h;unfold El.may jed at hm;unfold El.rad;have h5:((e.tr.toNat:Nat):Int)<=((usq e.tr.toNat*usq e.tr.toNat:Nat):Int):=by exact_mod_cast h1
 rw[x6] at h5;omega
theorem quy (h:e.may) (hp:e.at X Y) (x y:Int) : -qdn e x y<=x*(X-e.x)+y*(Y-e.y)/\x*(X-e.x)+y*(Y-e.y)<=qdn e x y:=by
 have h1:=holds_iff.1 hp x y;have h2:=qmw (jel e.a e.b e.d x y).toNat;have h5:(((jel e.a e.b e.d x y).toNat:Nat):Int)<=((usq (jel e.a e.b e.d x y).toNat*usq (jel e.a e.b e.d x y).toNat:Nat):Int):=by exact_mod_cast h2
 rw[x6] at h5;have e1:jel e.a e.b e.d x y=e.a*(x*x)+2*(e.b*(x*y))+e.d*(y*y):=by unfold jel;omega
 have e2:((X-e.x)*x+(Y-e.y)*y)=x*(X-e.x)+y*(Y-e.y):=by grind
 rw[e2] at h1;have h6:(x*(X-e.x)+y*(Y-e.y))*(x*(X-e.x)+y*(Y-e.y))<=qdn e x y*qdn e x y:=by unfold qdn;omega
 have h7:=qgq (m:=qdn e x y) (by unfold qdn;omega) h6;omega
theorem q6c {u v p q:Int} (hp:0<=p) (hq:0<=q) (h1:u*u+v*v<=p*p) (h2:x*x+y*y<=q*q):u*x+v*y<=p*q/\-(u*x+v*y)<=p*q:=by
 have e:(u*x+v*y)*(u*x+v*y)+(u*y-v*x)*(u*y-v*x)=(u*u+v*v)*(x*x+y*y):=by grind
 have h3:=jea (u*y-v*x);have h4:(u*u+v*v)*(x*x+y*y)<=p*p*(q*q):=by
  refine xS h1 h2 ?_ (jea p);have:=jea x;have:=jea y;omega
 have e2:p*p*(q*q)=p*q*(p*q):=by grind
 exact qgq (xy hp hq) Q8G
theorem q6d {u v p q:Int} (hp:0<=p) (hq:0<=q) (h1:u*u+v*v<=p*p) (h2:x*x+y*y<=q*q):(u+x)*(u+x)+(v+y)*(v+y)<=(p+q)*(p+q):=by
 have h:=(q6c hp hq h1 h2).1;have e1:(u+x)*(u+x)+(v+y)*(v+y)=(u*u+v*v)+2*(u*x+v*y)+(x*x+y*y):=by grind
 have e2:(p+q)*(p+q)=p*p+2*(p*q)+q*q:=by grind
 omega
theorem jce {u v p q:Int} (hq:0<=q) (hpq:q<=p) (h1:p*p<=u*u+v*v) (h2:x*x+y*y<=q*q):(p-q)*(p-q)<=(u+x)*(u+x)+(v+y)*(v+y):=by
 refine Int.not_lt.1 fun hlt=>?_
 have h3:=q6d (u:=u+x) (v:=v+y) (x:=-x) (y:=-y) (p:=p-q) (q:=q) Q8G hq (yd hlt) Qah;have e1:u+x + -x=u:=by omega
 have e2:v+y + -y=v:=by omega
 have e3:p-q+q=p:=by omega
 rw[e1,e2,e3] at h3;have h4:=(q6c (u:=u+x) (v:=v+y) (x:=-x) (y:=-y) (p:=p-q) (q:=q) Q8G hq (yd hlt) Qah).1;have e4:u*u+v*v=((u+x)*(u+x)+(v+y)*(v+y))+2*((u+x) * -x+(v+y) * -y)+(x*x+y*y):=by grind
 have e5:p*p=(p-q)*(p-q)+2*((p-q)*q)+q*q:=by grind
 omega
def apart (X Y x y lo hi:Int):Prop:=lo*lo<=(X-x)*(X-x)+(Y-y)*(Y-y)/\(X-x)*(X-x)+(Y-y)*(Y-y)<=hi*hi
theorem qlq {n:El} (hn:n.may) {lo hi:Int} (hq:n.at x y) (hd:jfy lo hi) (h:apart X Y x y lo hi):(X-n.x)*(X-n.x)+(Y-n.y)*(Y-n.y)<=(hi+n.rad)*(hi+n.rad):=by
 have:=q6d (u:=X-x) (v:=Y-y) (x:=x-n.x) (y:=y-n.y) (p:=hi) (q:=n.rad) (by unfold jfy at hd;omega) Q8G h.2 (q6b hn hq);have e1:X-x+(x-n.x)=X-n.x:=by omega
 have e2:Y-y+(y-n.y)=Y-n.y:=by omega
 rwa[e1,e2] at this
theorem qwp {n:El} (hn:n.may) {lo hi:Int} (hq:n.at x y) (hd:jfy lo hi) (h:apart X Y x y lo hi):max 0 (lo-n.rad)*max 0 (lo-n.rad)<=(X-n.x)*(X-n.x)+(Y-n.y)*(Y-n.y):=by
 by_cases hr:(n.rad:Int)<=lo
 ·have:=jce (u:=X-x) (v:=Y-y) (x:=x-n.x) (y:=y-n.y) (p:=lo) (q:=n.rad) Q8G hr h.1 (q6b hn hq);have e1:X-x+(x-n.x)=X-n.x:=by omega
  have e2:Y-y+(y-n.y)=Y-n.y:=by omega
  rw[e1,e2] at this;rw[Int.max_eq_right Q8G];exact this
 ·rw[Int.max_eq_left Q8G];have h1:=jea (X-n.x);have h2:=jea (Y-n.y);omega
theorem jcf {v:Int} (h:z*z<=v):z<=(usq v.toNat:Nat):=by
 have h2:=qmw v.toNat;have h5:((v.toNat:Nat):Int)<=((usq v.toNat*usq v.toNat:Nat):Int):=by exact_mod_cast h2
 rw[x6] at h5;exact(qgq Q8G Q8G).1
theorem q80 {v:Int} (hz:0<=z) (hv:0<=v) (h:v<=z*z):((isq v.toNat:Nat):Int)<=z:=by
 have h2:=qqs v.toNat;have h5:((isq v.toNat*isq v.toNat:Nat):Int)<=((v.toNat:Nat):Int):=by exact_mod_cast h2
 rw[x6] at h5;exact(qgq hz Q8G).1
theorem qwq {n:El} (he:e.may) (hn:n.may) {lo hi:Int} (hp:e.at X Y) (hq:n.at x y) (hd:jfy lo hi) (h:apart X Y x y lo hi):(jek e n lo hi).lo<=(e.x-n.x)*(X-n.x)+(e.y-n.y)*(Y-n.y)/\(e.x-n.x)*(X-n.x)+(e.y-n.y)*(Y-n.y)<=(jek e n lo hi).hi:=by
 have h1:=quy he hp (e.x-n.x) (e.y-n.y);have h2:=quy he hp (-(e.y-n.y)) (e.x-n.x);have h3:=qlq hn hq hd h;have h4:=qwp hn hq hd h;have hk:0<=qdn e (-(e.y-n.y)) (e.x-n.x):=by unfold qdn;omega
 unfold jek;show jg5 _ _ _ _<=_/\_<=jgi _ _ _;generalize qdn e (e.x-n.x) (e.y-n.y)=w at *;generalize qdn e (-(e.y-n.y)) (e.x-n.x)=k at *;generalize max 0 (lo-(n.rad:Int))=m at *;generalize hi+(n.rad:Int)=far at *;have e0:(e.x-n.x)*(X-n.x)+(e.y-n.y)*(Y-n.y)=((e.x-n.x)*(e.x-n.x)+(e.y-n.y)*(e.y-n.y))+((e.x-n.x)*(X-e.x)+(e.y-n.y)*(Y-e.y)):=by grind
 have e1 : -(e.y-n.y)*(X-e.x)+(e.x-n.x)*(Y-e.y) = -(e.y-n.y)*(X-n.x)+(e.x-n.x)*(Y-n.y):=by grind
 rw[e1] at h2;have hid:((e.x-n.x)*(X-n.x)+(e.y-n.y)*(Y-n.y))*((e.x-n.x)*(X-n.x)+(e.y-n.y)*(Y-n.y))+(-(e.y-n.y)*(X-n.x)+(e.x-n.x)*(Y-n.y))*(-(e.y-n.y)*(X-n.x)+(e.x-n.x)*(Y-n.y))=((e.x-n.x)*(e.x-n.x)+(e.y-n.y)*(e.y-n.y))*((X-n.x)*(X-n.x)+(Y-n.y)*(Y-n.y)):=by grind
 have hh:0<=(e.x-n.x)*(e.x-n.x)+(e.y-n.y)*(e.y-n.y):=by
  have:=jea (e.x-n.x);have:=jea (e.y-n.y);omega
 generalize (e.x-n.x)*(e.x-n.x)+(e.y-n.y)*(e.y-n.y)=H at *;generalize (X-n.x)*(X-n.x)+(Y-n.y)*(Y-n.y)=Z at *;generalize -(e.y-n.y)*(X-n.x)+(e.x-n.x)*(Y-n.y)=c at *;generalize (e.x-n.x)*(X-n.x)+(e.y-n.y)*(Y-n.y)=g at *;have hc:c*c<=k*k:=by
  have:=xy (by omega:0<=k-c) (by omega:0<=k+c);have e2:(k-c)*(k+c)=k*k-c*c:=by grind
  omega
 constructor
 ·unfold jg5;split
  ·split
   ·rename_i h5 h6;refine Int.max_le.2 ⟨by omega,q80 Q8G Q8G ?_⟩;have h7:=ya h4 hh;have e3:H*m*m=H*(m*m):=by grind
    omega
   ·omega
  ·omega
 ·unfold jgi;refine Int.le_min.2 ⟨by omega,jcf ?_⟩;have h7:=ya h3 hh;have e3:H*far*far=H*(far*far):=by grind
  have:=jea c;omega
theorem qlr (h:(X-x)*(X-x)+(Y-y)*(Y-y)<=r*r):(jd0 x y r).at X Y:=by
 have:=q3y h;refine qq4 (q:=1) Q8H ?_;show dom (r*r) 0 (r*r) (1*(X-x)) (1*(Y-y)) 1;rw[Int.one_mul,Int.one_mul];exact this
theorem qf1 (h:qax 4194304 x y) (hr:1<=r/\r<=4194304):(jd0 x y r).may:=by
 have h1:1*1<=r*r:=xS Q8G Q8G Q8G Q8G;have h2:r*r<=4194304*4194304:=xS Q8G Q8G Q8G Q8G;have h3:1*1<=(r*r)*(r*r):=xS Q8G Q8G Q8G Q8G;show qax 4194304 x y/\(1<=r*r/\r*r<=70368744177664)/\(1<=r*r/\r*r<=70368744177664)/\(-70368744177664<=(0:Int)/\(0:Int)<=70368744177664)/\0<r*r*(r*r)-0*0;exact⟨h,by omega,by omega,by omega,by omega⟩
theorem qq8 {n:El} (he:e.may) (hn:n.may) {lo hi:Int} (hp:e.at X Y) (hq:n.at x y) (hd:jfy lo hi) (h:apart X Y x y lo hi):∃ r,qb1 e n lo hi=(r,0)/\(r.may/\r.at X Y)/\r.tr<=e.tr:=by
 have hN:∃ r,nearF e n hi=(r,0)/\(r.may/\r.at X Y)/\r.tr<=e.tr:=by
  unfold nearF;split
  ·rename_i hr;have hw:qax 4194304 n.x n.y:=by unfold El.may jed at hn;exact hn.1
   obtain⟨r,h1,h2,h3⟩:=qet he (qf1 hw hr) hp (qlr (qlq hn hq hd h));rw[h1,if_neg Q8R,if_pos rfl];exact⟨r,rfl,h2,h3⟩
  ·exact⟨e,rfl,⟨he,hp⟩,yp _⟩
 obtain⟨r,h1,⟨h2,h3⟩,h4⟩:=hN;unfold qb1;rw[if_pos ⟨he,hn,hd⟩,h1,if_neg Q8R];show ∃ r',qcf r n lo hi=(r',0)/\_;have hR:=qwq h2 hn h3 hq hd h;unfold qcf;have hF:(jd7 r n lo hi).2≠3/\((jd7 r n lo hi).2=0->(jd7 r n lo hi).1.lo<=(jd7 r n lo hi).1.hx*(X-(jd7 r n lo hi).1.ox)+(jd7 r n lo hi).1.hy*(Y-(jd7 r n lo hi).1.oy)/\(jd7 r n lo hi).1.hx*(X-(jd7 r n lo hi).1.ox)+(jd7 r n lo hi).1.hy*(Y-(jd7 r n lo hi).1.oy)<=(jd7 r n lo hi).1.hi):=by
  unfold jd7;rw[if_neg (fun h=>h ⟨h2,hn,hd⟩)];split
  ·exact⟨by decide,fun h=>by cases h⟩
  split
  ·omega
  split
  ·refine⟨by simp,fun _=>?_⟩;show(jek r n lo hi).lo<=(r.x-n.x)*(X-n.x)+(r.y-n.y)*(Y-n.y)/\(r.x-n.x)*(X-n.x)+(r.y-n.y)*(Y-n.y)<=(jek r n lo hi).hi+1;omega
  ·exact⟨by simp,fun _=>hR⟩
 rw[if_neg hF.1];split
 ·rename_i h0;have hk:=hF.2 h0;by_cases hs:(jd7 r n lo hi).1.may
  ·obtain⟨r',h5,h6,h7⟩:=qwj h2 hs h3 hk;rw[h5,if_neg Q8R,if_pos rfl];exact⟨r',rfl,h6,by omega⟩
  ·have h5:cutF r (jd7 r n lo hi).1=(El.o,1):=by unfold cutF;rw[if_neg (fun h=>hs h.2)]
   rw[h5,if_neg Q8H,if_neg Q8H];exact⟨r,rfl,⟨h2,h3⟩,h4⟩
 ·exact⟨r,rfl,⟨h2,h3⟩,h4⟩
theorem qoq {n r:El} {lo hi:Int} (ha:qbo n hi=(r,0)) (hq:n.at x y) (hd:jfy lo hi) (h:apart X Y x y lo hi):r.may/\r.at X Y:=by
 unfold qbo at ha;split at ha
 ·rename_i h1;split at ha
  ·injection ha with _ h;cases h
  ·rename_i h2;obtain rfl:jd0 n.x n.y (max 1 (hi+n.rad))=r:=by injection ha
   have hw:qax 4194304 n.x n.y:=by have:=h1.1;unfold El.may jed at this;exact this.1
   refine⟨qf1 hw Q8G,qlr ?_⟩;have h3:=qlq h1.1 hq hd h;have h4:(hi+n.rad)*(hi+n.rad)<=max 1 (hi+(n.rad:Int))*max 1 (hi+(n.rad:Int)):=xS Q8G Q8G Q8G Q8G;omega
 ·injection ha with _ h;cases h
def Fil.holds (f:Fil) (X Y:Int):Prop:=f.valid=true->f.e.may/\f.e.at X Y
abbrev elC (o:Bool) (e:El):Chunk:=⟨o,5,[(0,5,elE e)]⟩
abbrev stC (o:Bool) (s:Strip):Chunk:=⟨o,6,[(0,6,stV s)]⟩
abbrev bC (b:Bool):Chunk:=⟨true,1,[(0,1,.bool b)]⟩
abbrev pt2 (i j:Nat):Array Value:=#[xd i,xd j]
abbrev seC (o:Bool) (k m:Nat) (s:GS):Chunk:=⟨o,4,[(0,4,.agg #[.func (.func 190) #[] (pt2 k m),xc s.w,xc s.best.n,.bool s.best.ok])]⟩
theorem el_re {w:Bool} (e:El):((elC false e).own=true->(elC w e).own=true/\m<=(elC w e).n)/\(elC false e).n<=(elC w e).n/\qbb ix (elC w e) (elC false e):=qij (qbz rfl rfl)
theorem st_re {w:Bool} (e:Strip):((stC false e).own=true->(stC w e).own=true/\m<=(stC w e).n)/\(stC false e).n<=(stC w e).n/\qbb ix (stC w e) (stC false e):=qij (qbz rfl rfl)
theorem b_re (hm:m<=1) (b:Bool):((bC b).own=true->(bC b).own=true/\m<=(bC b).n)/\(bC b).n<=(bC b).n/\qbb ix (bC b) (bC b):=⟨fun _=>⟨rfl,hm⟩,nlr _,g1 (.plain rfl)⟩
theorem g4 (h0:p 0) (h1:p 1) (h2:p 2) (h3:p 3):∀ j,j<4->p j:=fun j hj=>Q4H
theorem jqo (h:a=b):Re1 ix (.int k a) (.int k b):=by subst h;exact .plain rfl
theorem qcv (b:Bool):b=false\/b=true:=by cases b<;>simp
def qq9 (e:El):Nat->Int
 | 0=>e.x
 | 1=>e.y
 | 2=>e.a
 | 3=>e.b
 | _=>e.d
def jfm (L:List El) (k:Nat):Int:=qq9 (L.getD (k / 5) El.o) (k%5)
abbrev rwE (cap:Nat) (L:List El):Chunk:=⟨true,cap*5,[(0,cap*5,.agg ⟨segL (cap*5) (fun k=>xc (jfm L k))⟩)]⟩
variable {cap:Nat} {L:List El}
theorem qgr {k:Nat} (h:k<cap*5):(rwE cap L).f k=xc (jfm L k):=by
 refine Q3j ?_;exact qh9 h
theorem ji1 (e:El) (i:Nat) (h:i<5):cellIn (elE e) i=xc (qq9 e i):=by
 match i,h with
 | 0,_=>rfl
 | 1,_=>rfl
 | 2,_=>rfl
 | 3,_=>rfl
 | 4,_=>rfl
theorem q36 (L:List El) (j i:Nat) (h:i<5):jfm L (j*5+i)=qq9 (L.getD j El.o) i:=by
 unfold jfm;rw[show(j*5+i) / 5=j from by omega,show(j*5+i)%5=i from by omega]
theorem jof {j p:Nat} (h:j<cap) (he:L.getD j El.o=e) (hp:p=j*5):Reads (rwE cap L) p true 5 (elE e):=by
 subst hp he;refine⟨by show j*5+5<=cap*5;omega,_,rfl,rfl,fun i hi=>?_⟩;rw[qgr Q8G,q36 _ _ _ hi];exact(ji1 _ i hi).symm
theorem q37 (L:List El) (x:El) (j:Nat):(L++[x]).getD j El.o=if j=L.length then x else L.getD j El.o:=by
 rw[xD,xD,List.getElem?_append];by_cases h:j<L.length
 ·rw[if_pos h,if_neg Q8G]
 ·rw[if_neg h];by_cases e:j=L.length
  ·subst e;simp
  ·rw[if_neg e,ye Q9j,ye Q8G]
theorem qra (L:List El) (x:El) (k:Nat):jfm (L++[x]) k=if k / 5=L.length then qq9 x (k%5) else jfm L k:=by
 unfold jfm;rw[q37];split<;>rfl
variable {ci:Chunk}
theorem ji2 {k:Nat} {x:El} {z:Value} (hk:k=L.length) (hz:z=elE El.o) (hc:∀ j,j<L.length*5->ci.f j=xc (jfm L j)) (h:L.length+1<=cap):ChunkLe (rwE cap (L++[x])) (grown ci k 1 5 (elE x) z cap):=by
 subst hz hk;refine ChunkLe.mk (fun _=>rfl) (nlr _) (fun j hj=>?_);have hj:j<cap*5:=hj;rw[qgr hj,qra];by_cases h1:j<L.length*5
 ·rw[if_neg Q8G,qgc h1,hc j h1]
 ·by_cases h2:j<(L.length+1)*5
  ·rw[if_pos Q8G];have:=qgd (ci:=ci) (l:=L.length) (m:=1) (size:=5) (cap:=cap) (v:=elE x) (z:=elE El.o) (j:=j%5) Q8G;rw[show L.length*5+j%5=j from by omega] at this;rw[this,ji1 _ _ Q8G]
  ·rw[if_neg Q8G,qfk Q8G hj];have e5:∀ i,i<5->(xc (qq9 El.o i))=(qc6 (elE El.o)).getD i undef:=fun i hi=>by
    match i,hi with
    | 0,_=>rfl
    | 1,_=>rfl
    | 2,_=>rfl
    | 3,_=>rfl
    | 4,_=>rfl
   unfold jfm jfi;rw[xD,ye Q8G];exact e5 _ Q8G
variable {o:Bool}
theorem quz (e:El):∀ j,j<1*5->(elC o e).f j=xc (jfm [e] j):=fun j hj=>by
 have:=ji1 e j Q8G;show qa3 _ _=_;rw[qam,if_pos Q8G,show j-0=j from rfl,this];unfold jfm;rw[show j / 5=0 from by omega,show j%5=j from by omega];rfl
theorem jcg (e:El):ChunkLe (rwE 1 [e]) (elC true e):=ChunkLe.mk (fun _=>rfl) (nlr _) (fun j hj=>by
 have hj:j<1*5:=hj;rw[qgr hj,quz e j hj])
abbrev gvC (v:GV):Chunk:=⟨true,2,[(0,2,.agg #[xc v.n,.bool v.ok])]⟩
theorem qkh:∀ n,n<6->2<(gwide n).1:=by decide
theorem jg6 (of:Int->El×Int) (e:Bool) (n:Nat) (h:n<=6):(0<=(GL.go of e n).x/\(GL.go of e n).x<=34)/\(0<=(GL.go of e n).y/\(GL.go of e n).y<=34)/\(0<=(GL.go of e n).b/\(GL.go of e n).b<=34)/\(0<=(GL.go of e n).a/\(GL.go of e n).a<=34):=by
 obtain⟨h1,h2,h3,h4,h5⟩:=qdr of e n h;have hn:n=0\/n=1\/n=2\/n=3\/n=4\/n=5\/n=6:=by omega
 rcases hn with rfl|rfl|rfl|rfl|rfl|rfl|rfl<;>simp only[gwide] at h1 h2 h3<;>omega
theorem ask_w {s:GS} (h:0<=s.w/\s.w<=34) (hw:0<=w/\w<=34):0<=(s.ask of w).w/\(s.ask of w).w<=34:=by
 unfold GS.ask;split
 ·exact hw
 ·exact h
theorem jpt (of:Int->El×Int) (e:Bool):∀ n,n<=6->0<=(GL.go of e n).s.w/\(GL.go of e n).s.w<=34:=by
 intro n
 induction n with
 | zero=>exact fun _=>ask_w (ask_w ⟨yp 0,(by decide:(0:Int)<=34)⟩ Q8H) Q8H
 | succ n ih=>
  intro h;have ih:=ih Q8G;have hx:=jg6 of e (n+1) h;have st:GL.go of e (n+1)=(GL.go of e n).step of:=rfl;rw[st] at hx ⊢;generalize GL.go of e n=l at *;unfold GL.step GL.left GL.right at *;split<;>split
  ·exact ih
  ·rename_i h1 h2;rw[if_pos h1,if_neg h2] at hx;exact ask_w ih hx.1
  ·exact ih
  ·rename_i h1 h2;rw[if_neg h1,if_neg h2] at hx;exact ask_w ih hx.2.1
theorem qu0 {k s l c:Nat} {cj:Chunk} {g size bytes:Nat} {z:Value} {slot:Nat} {K:Value->Mz->Prop} (v:Value) (hr:Reads cj g true (m*size) v) (hf:flatB v (m*size)=true) (hl:l*size<=ci.n) (h1:l+m<=9223372036854775807) (h2:(l+m)*bytes<=140737488355328)
  (d:Chunk) (hw:l+m<=c->Writes ci (l*size) (m*size) v d) (k1:l+m<=c->K (.slice (some ⟨k,0,some s⟩) (l+m) c) [(k,d)]) (k2:c<l+m->∀ cap,l+m<=cap->K (.slice (some ⟨slot,0,some 0⟩) (l+m) cap) [(slot,grown ci l m size v z cap)]):N (jmc ci k s l c cj g m size bytes z slot K):=
 N.mk ⟨v,hr,hf,hl,h1,h2,fun h=>⟨d,hw h,k1 h⟩,k2⟩
theorem reI (h:a=b):Re ix (.int k a) (.int k b):=by subst h;exact .plain rfl
theorem jog:ChunkReLe ix (rwE cap L) (rwE cap L):=⟨id,nlr _,fun j hj=>by rw[qgr hj];exact .plain rfl⟩
theorem ji3 {ps:Pz} (h:ChunkLe (rwE cap L) ⟨o,n,ps⟩):ChunkReLe ix (rwE cap L) ⟨o,n,ps⟩:=⟨h.1,h.2.1,fun j hj=>by rw[<-h.2.2.1 j hj,qgr hj];exact .plain rfl⟩
theorem jh9:ChunkReLe ix (elC o e) (elC o e):=⟨id,nlr _,fun j hj=>(el_re (m:=0) (w:=o) e).2.2 j hj⟩
theorem jls {e:Strip}:ChunkReLe ix (stC o e) (stC o e):=⟨id,nlr _,fun j hj=>(st_re (m:=0) (w:=o) e).2.2 j hj⟩
theorem jqp {b:Bool}:ChunkReLe ix (bC b) (bC b):=⟨id,nlr _,g1 (.plain rfl)⟩
theorem ji4 (e:El) (hm:m=5):Reads (elC o e) 0 true m (elE e):=by
 subst hm;refine⟨nlr _,_,rfl,rfl,fun i hi=>?_⟩;show qa3 _ _=_;rw[qam,if_pos Q8G,show 0+i-0=i from by omega];rfl
theorem joh {p:Nat} {x:El} (ho:ci.own=true) (hx:ci.x=Ext.none) (hn:ci.n=cap*5) (hle:ChunkLe (rwE cap L) ci) (h:L.length<cap) (hp:p=L.length*5):Writes ci p 5 (elE x) (rwE cap (L++[x])):=by
 subst hp;refine⟨ho,by rw[hn];omega,by show(cap*5,Ext.none)=_;rw[hn,hx],fun j hj=>?_⟩;rw[hn] at hj;have hc:=(hle.2.2.1 j hj).symm;rw[qgr hj] at hc;rw[qgr hj,qra];by_cases e:j / 5=L.length
 ·rw[if_pos e,if_pos Q8G,ji1 _ _ Q8G,show j-L.length*5=j%5 from by omega]
 ·rw[if_neg e,if_neg Q8G,hc]
theorem q38 (hle:ChunkLe (rwE cap L) ci) (h:L.length<=cap):∀ j,j<L.length*5->ci.f j=xc (jfm L j):=fun j hj=>by
 have hj2:j<cap*5:=xj hj (xX _ h);have:=hle.2.2.1 j hj2;rw[qgr hj2] at this;exact this.symm
theorem qgs (L:List El) (e:El) (k:Nat) (h:k<L.length):(L.take (k+1)).foldl lesser e=lesser ((L.take k).foldl lesser e) (L.getD k El.o):=Q3I
theorem qi1 (L:List El) (e:El):(L.take L.length).foldl lesser e=L.foldl lesser e:=by rw[List.take_length]
abbrev gvV (v:GV):Value:=.agg #[xc v.n,.bool v.ok]
theorem jch (v w:GV) (W:World):xa 208 #[gvV v,gvV w] W (.bool (v.most w)):=by
 obtain⟨n,a⟩:=v;obtain⟨m,b⟩:=w;unfold GV.most;refine qac (G:=tys) W tysOK mixed func208 Q8I Q8I Q8I ?_;cases a<;>cases b
 all_goals
  repeat' (first|(refine Bb ?_;first|with_reducible (first|refine Ba Q8H ?_|refine Ba (qab _ _ _) ?_|refine Ba (qaa _ _) ?_|refine Bk ?_|refine Ba rfl ?_|refine Ba ⟨by kernel_rfl,by kernel_rfl⟩ ?_|refine Bj ?_|refine Bh ?_|refine Bi ?_)|refine Bf rfl ?_|refine Be rfl ?_|fail)|refine qah Q8I ?_)
 all_goals rfl
theorem jhp (v w:GV) (h:Hp):qaf prog 208 [gvV v,gvV w] h (.bool (v.most w)) [] []:=
 qai rfl rfl (call208 _) (jch v w)
theorem jlt {p:Prop} [Decidable p] (h:p):(!decide p)=false:=by rw[xi h];rfl
abbrev jkj (o:Bool) (i j:Nat):Chunk:=⟨o,1,[(0,1,.func (.func 166) #[] (pt2 i j))]⟩
abbrev jpu (i j:Nat):Value:=.func (.func 166) #[] (pt2 i j)
theorem cWF (e:El) (f:El) (w:Int) (hw:0<=w/\w<=34) (he:e.may) (hf:f.may) (i j:Nat) (hij:i≠j) (o1 o2:Bool) (h:Hp) (hi:h[i]?=some (some (elC o1 e))) (hj:h[j]?=some (some (elC o2 f))) :
  qaf prog 166 [xc w,xd i,xd j] h (.tuple #[elE (fuseW e f w).1,xc (fuseW e f w).2]) [] [i,j]:=by
 refine qal (G:=tys) [⟨i,_,elC false e,⟨false,0,[]⟩⟩,⟨j,_,elC false f,⟨false,0,[]⟩⟩] [] [xc w,xd 0,xd 1] tysOK mixed func166 Q8I (call166) ⟨hi,hj,xb⟩ ⟨el_re _,el_re _,xb⟩ Q9p xb Q7X ?_
 repeat' (first|(refine Bb ?_;first|with_reducible (first|refine Ba Q8H ?_|refine Ba (qab _ _ _) ?_|refine Ba (qaa _ _) ?_|refine Bk ?_|refine Ba rfl ?_|refine Ba ⟨by kernel_rfl,by kernel_rfl⟩ ?_|refine Bj ?_|refine Bh ?_|refine Bi ?_)|refine Bc (jcc e f w _ hw he hf) ?_|refine Ba (.plain rfl) ?_|refine Ba xb ?_|exact Bg|fail)|refine qah Q8I ?_)
theorem cQF (e:El) (f:El) (w:Int) (b:Bool) (hw:0<=w/\w<=34) (he:e.may) (hf:f.may) (k m i j:Nat) (hne:[k,m,i,j].Nodup) (o1 o2 o3:Bool) (h:Hp) (hk:h[k]?=some (some (jkj o3 i j))) (hm:h[m]?=some (some (bC b))) (hi:h[i]?=some (some (elC o1 e))) (hj:h[j]?=some (some (elC o2 f))) :
  qaf prog 190 [xc w,xd k,xd m] h (.tuple #[xc (jep (fuseW e f) w).n,.bool (jep (fuseW e f) w).ok]) [(m,bC (b||decide ((fuseW e f w).2=3)))] [k,i,j]:=by
 simp only[xL,xg,xI,or_false,not_or,xK,yz,and_true] at hne
 refine qal (G:=tys) [⟨m,_,bC b,bC (b||decide ((fuseW e f w).2=3))⟩,⟨k,_,jkj false 2 3,⟨false,0,[]⟩⟩,⟨i,_,elC false e,⟨false,0,[]⟩⟩,⟨j,_,elC false f,⟨false,0,[]⟩⟩] [] [xc w,xd 1,xd 0] tysOK mixed func190 Q8I (call190) ⟨hm,hk,hi,hj,xb⟩ ⟨b_re (nlr _) _,Q6U,el_re _,el_re _,xb⟩ Q9F xb Q7X ?_
 cases b
 all_goals
  repeat' (first|(refine Bb ?_;first|with_reducible (first|refine Ba Q8H ?_|refine Ba (qab _ _ _) ?_|refine Ba (qaa _ _) ?_|refine Bk ?_|refine Ba rfl ?_|refine Ba ⟨by kernel_rfl,by kernel_rfl⟩ ?_|refine Bj ?_|refine Bh ?_|refine Bi ?_)|refine Bc (cWF e f w hw he hf 2 3 Q8H _ _ _ Q8I Q8I) ?_|refine Bc (qd1 _ _ _ _ _ _) ?_|refine Bf Q8I ?_|refine Ba (.plain rfl) ?_|refine Ba Q74 ?_|refine Ba xb ?_|exact Bg|fail)|refine qah Q8I ?_)
theorem jkk (e:El) (f:El) (w:Int) (s:GS) (hw:0<=w/\w<=34) (he:e.may) (hf:f.may) (a k m i j:Nat) (hne:[a,k,m,i,j].Nodup) (o1 o2 o3:Bool) (h:Hp) (ha:h[a]?=some (some (seC true k m s))) (hk:h[k]?=some (some (jkj o3 i j))) (hm:h[m]?=some (some (bC s.emp))) (hi:h[i]?=some (some (elC o1 e))) (hj:h[j]?=some (some (elC o2 f))) :
  qaf prog 207 [xd a,xc w] h (.agg #[xc (jep (fuseW e f) w).n,.bool (jep (fuseW e f) w).ok]) [(a,seC true k m (s.ask (fuseW e f) w)),(m,bC (s.ask (fuseW e f) w).emp)] [k,i,j]:=by
 simp only[xL,xg,xI,or_false,not_or,xK,yz,and_true] at hne
 have hemp:(s.ask (fuseW e f) w).emp=(s.emp||decide ((fuseW e f w).2=3)):=by unfold GS.ask;split<;>rfl
 rcases qcv (jep (fuseW e f) w).ok with h1|h1
 ·skip;have hs':s.ask (fuseW e f) w=⟨s.w,s.best,s.emp||decide ((fuseW e f w).2=3)⟩:=by unfold GS.ask;exact if_neg (by simp[h1])
  exact Q06
 ·rcases qcv s.best.ok with h2|h2
  ·skip;have hs':s.ask (fuseW e f) w=⟨w,jep (fuseW e f) w,s.emp||decide ((fuseW e f w).2=3)⟩:=by unfold GS.ask;exact if_pos (by simp[h1,h2])
   exact Q06
  ·by_cases h3:(jep (fuseW e f) w).n<s.best.n
   ·skip;have hs':s.ask (fuseW e f) w=⟨w,jep (fuseW e f) w,s.emp||decide ((fuseW e f w).2=3)⟩:=by unfold GS.ask;exact if_pos (by simp[h1,h2,h3])
    exact Q06
   ·by_cases h4:(jep (fuseW e f) w).n=s.best.n
    ·by_cases h5:w<s.w
     ·skip;have hs':s.ask (fuseW e f) w=⟨w,jep (fuseW e f) w,s.emp||decide ((fuseW e f w).2=3)⟩:=by unfold GS.ask;exact if_pos (by simp[h1,h2,h4,h5])
      exact Q06
     ·skip;have hs':s.ask (fuseW e f) w=⟨s.w,s.best,s.emp||decide ((fuseW e f w).2=3)⟩:=by unfold GS.ask;exact if_neg (by simp[h1,h2,h3,h5])
      exact Q06
    ·skip;have hs':s.ask (fuseW e f) w=⟨s.w,s.best,s.emp||decide ((fuseW e f w).2=3)⟩:=by unfold GS.ask;exact if_neg (by simp[h1,h2,h3,h4])
     exact Q06
theorem qrb (e:El) (f:El) (w w':Int) (s:GS) (hww:w'=w) (hw:0<=w/\w<=34) (he:e.may) (hf:f.may) (a k m i j:Nat) (hne:[a,k,m,i,j].Nodup) (o1 o2 o3:Bool) (h:Hp) (ha:h[a]?=some (some (seC true k m s))) (hk:h[k]?=some (some (jkj o3 i j))) (hm:h[m]?=some (some (bC s.emp))) (hi:h[i]?=some (some (elC o1 e))) (hj:h[j]?=some (some (elC o2 f))) :
  qaf prog 207 [xd a,xc w'] h (.agg #[xc (jep (fuseW e f) w).n,.bool (jep (fuseW e f) w).ok]) [(a,seC true k m (s.ask (fuseW e f) w)),(m,bC (s.ask (fuseW e f) w).emp)] [k,i,j]:=by
 subst hww
 exact jkk e f w' s hw he hf a k m i j hne o1 o2 o3 h ha hk hm hi hj
theorem jci (e:El) (f:El) (b:Bool) (he:e.may) (hf:f.may) (k m i j:Nat) (hne:[k,m,i,j].Nodup) (o1 o2 o3:Bool) (h:Hp) (hk:h[k]?=some (some (jkj o3 i j))) (hm:h[m]?=some (some (bC b))) (hi:h[i]?=some (some (elC o1 e))) (hj:h[j]?=some (some (elC o2 f))) :
  qaf prog 189 [.func (.func 190) #[] (pt2 k m)] h (.tuple #[xc (GL.go (fuseW e f) b 6).s.w,xc (GL.go (fuseW e f) b 6).s.best.n,.bool (GL.go (fuseW e f) b 6).s.best.ok]) [(m,bC (GL.go (fuseW e f) b 6).s.emp)] [k,i,j]:=by
 simp only[xL,xg,xI,or_false,not_or,xK,yz,and_true] at hne
 refine qal (G:=tys) [⟨m,_,bC b,bC (GL.go (fuseW e f) b 6).s.emp⟩,⟨k,_,jkj false 2 3,⟨false,0,[]⟩⟩,⟨i,_,elC false e,⟨false,0,[]⟩⟩,⟨j,_,elC false f,⟨false,0,[]⟩⟩] [] [.func (.func 190) #[] (pt2 1 0)] tysOK mixed func189 Q8I (call189) ⟨hm,hk,hi,hj,xb⟩ ⟨b_re (nlr _) _,Q6U,el_re _,el_re _,xb⟩ Q9F xb ⟨.func xb Q6W,xb⟩ ?_
 repeat' (first|(refine Bb ?_;first|with_reducible (first|refine Ba Q8H ?_|refine Ba (qab _ _ _) ?_|refine Ba (qaa _ _) ?_|refine Bk ?_|refine Ba rfl ?_|refine Ba ⟨by kernel_rfl,by kernel_rfl⟩ ?_|refine Bj ?_|refine Bh ?_|refine Bi ?_)|refine Bc (jkk e f 13 ⟨0,⟨0,false⟩,b⟩ Q8H he hf 4 1 0 2 3 Q8H _ _ _ _ Q8I Q8I Q8I Q8I Q8I) ?_|refine Bc (jkk e f 21 (GS.ask (fuseW e f) ⟨0,⟨0,false⟩,b⟩ 13) Q8H he hf 4 1 0 2 3 Q8H _ _ _ _ Q8I Q8I Q8I Q8I Q8I) ?_|refine Be Q8H ?_|refine Bc (jhp (jep (fuseW e f) 13) (jep (fuseW e f) 21) _) ?_|refine Bf Q8H ?_|refine Bp (fun hb=>?_) (fun hb=>?_)|refine Bc (qrb e f 8 _ (GS.first (fuseW e f) b) Q8H Q8H he hf 4 1 0 2 3 Q8H _ _ _ _ Q8I Q8I Q8I Q8I Q8I) ?_)|refine qah Q8I ?_)
 ·refine Bb ?_;refine N.jumps tysOK mixed (α:=Nat) (fun l n=>(l=0/\n<=6)\/(l=1/\n<6/\(GL.go (fuseW e f) b n).fx.most (GL.go (fuseW e f) b n).fy=false)) (fun l n=>if l=0 then 2*(6-n)+1 else 2*(6-n)) (fun _ n=>[(5,xd 4),(6,xc (GL.go (fuseW e f) b n).a),(7,xc (GL.go (fuseW e f) b n).b),(8,xc (GL.go (fuseW e f) b n).x),(9,xc (GL.go (fuseW e f) b n).y),(10,xd 13),(11,xd 14)]) (fun _ n=>[(0,bC (GL.go (fuseW e f) b n).s.emp),(4,seC true 1 0 (GL.go (fuseW e f) b n).s),(13,gvC (GL.go (fuseW e f) b n).fx),(14,gvC (GL.go (fuseW e f) b n).fy)]) 0 Q8q ?_ ?_
  ·exact Q1D
  exact Q08
 ·refine Bb ?_;refine N.jumps tysOK mixed (α:=Nat) (fun l n=>(l=0/\n<=6)\/(l=1/\n<6/\(GL.go (fuseW e f) b n).fx.most (GL.go (fuseW e f) b n).fy=false)) (fun l n=>if l=0 then 2*(6-n)+1 else 2*(6-n)) (fun _ n=>[(5,xd 4),(6,xc (GL.go (fuseW e f) b n).a),(7,xc (GL.go (fuseW e f) b n).b),(8,xc (GL.go (fuseW e f) b n).x),(9,xc (GL.go (fuseW e f) b n).y),(10,xd 13),(11,xd 14)]) (fun _ n=>[(0,bC (GL.go (fuseW e f) b n).s.emp),(4,seC true 1 0 (GL.go (fuseW e f) b n).s),(13,gvC (GL.go (fuseW e f) b n).fx),(14,gvC (GL.go (fuseW e f) b n).fy)]) 1 (.inl ⟨rfl,by decide⟩) ?_ ?_
  ·rw[show GL.go (fuseW e f) b 1=(GL.start (fuseW e f) b).left (fuseW e f) from if_pos Qa3];exact Q1D
  exact Q08
theorem q81 (e:El) (f:El) (he:e.may) (hf:f.may) (i j:Nat) (q:Nat) (o4:Bool) (hne:[i,j,q].Nodup) (o1 o2:Bool) (h:Hp) (hi:h[i]?=some (some (elC o1 e))) (hj:h[j]?=some (some (elC o2 f))) (hq:h[q]?=some (some (elC o4 f))) :
  qaf prog 165 [elE e,jpu i j,.slice (some ⟨q,0,some 0⟩) 1 1] h (.tuple #[elE (qbi e (fuseW e f) [f]).1,xc (qbi e (fuseW e f) [f]).2]) [] [i,j,q]:=by
 simp only[xL,xg,xI,or_false,not_or,xK,yz,and_true] at hne
 refine qal (G:=tys) [⟨i,_,elC false e,⟨false,0,[]⟩⟩,⟨j,_,elC false f,⟨false,0,[]⟩⟩,⟨q,_,elC false f,⟨false,0,[]⟩⟩] [] [elE e,jpu 0 1,.slice (some ⟨2,0,some 0⟩) 1 1] tysOK mixed func165 Q8I (call165) ⟨hi,hj,hq,xb⟩ ⟨el_re _,el_re _,el_re _,xb⟩ (by simp[Apart, *]) xb ⟨.plain rfl,.func xb Q6W,.slice rfl,xb⟩ ?_
 repeat' (first|(refine Bb ?_;first|with_reducible (first|refine Ba Q8H ?_|refine Ba (qab _ _ _) ?_|refine Ba (qaa _ _) ?_|refine Bk ?_|refine Ba rfl ?_|refine Ba ⟨by kernel_rfl,by kernel_rfl⟩ ?_|refine Bj ?_|refine Bh ?_|refine Bi ?_)|refine Bc (jci e f false he hf 4 6 0 1 Q8H _ _ _ _ Q8I Q8I Q8I Q8I) ?_)|refine qah Q8I ?_)
 rcases qcv (GL.go (fuseW e f) false 6).s.emp with hem|hem
 ·rcases qcv (GL.go (fuseW e f) false 6).s.best.ok with hok|hok
  ·have hF:qbi e (fuseW e f) [f]=(([e]++[f]).foldl lesser e,0):=by unfold qbi;rw[hem,hok];rfl
   rw[hF];repeat' (first|(refine Bb ?_;first|with_reducible (first|refine Ba Q8H ?_|refine Ba (qab _ _ _) ?_|refine Ba (qaa _ _) ?_|refine Bk ?_|refine Ba rfl ?_|refine Ba ⟨by kernel_rfl,by kernel_rfl⟩ ?_|refine Bj ?_|refine Bh ?_|refine Bi ?_)|refine Be hem ?_|refine Be hok ?_)|refine qah Q8I ?_)
   refine Bb ?_;refine qu0 (elE f) (ji4 f rfl) rfl (by show 1*5<=5;decide) Q8H Q8H (rwE 1 [e]) (fun h=>absurd h Q8H) (fun h=>absurd h Q8H) (fun _ cap hcap=>?_);have le1:ChunkLe (rwE cap ([e]++[f])) (grown (elC true e) 1 1 5 (elE f) (elE El.o) cap):=ji2 rfl rfl (quz e) hcap;refine Q01 ?_;refine Bw (α:=Nat) (fun k=>k<=2) (fun k=>2-k) (fun k=>[(44,xc (k:Int))]) (fun k=>[(9,rwE cap ([e]++[f])),(8,elC true ((([e]++[f]).take k).foldl lesser e))]) 0 [(0,0),(1,1),(2,2),(3,3),(4,4),(5,5),(6,6),(7,7),(8,8),(9,9)] (xm _) ?_ ?_
   ·exact Q0V
   intro k hk;by_cases hlt:k<2
   ·have st:=qgs ([e]++[f]) e k hlt;generalize hO:(([e]++[f]).take k).foldl lesser e=O;by_cases hless:(([e]++[f]).getD k El.o).tr<O.tr
    ·have hls:lesser O (([e]++[f]).getD k El.o)=([e]++[f]).getD k El.o:=if_pos hless;refine Q0r ?_;exact Q3o
    ·have hls:lesser O (([e]++[f]).getD k El.o)=O:=if_neg hless;refine Q0p ?_;exact Q3o
   ·obtain rfl:k=2:=by omega
    rw[show(([e]++[f]).take 2).foldl lesser e=([e]++[f]).foldl lesser e from qi1 ([e]++[f]) e];exact Q0F
  ·have hF:qbi e (fuseW e f) [f]=((([e]++[(fuseW e f (GL.go (fuseW e f) false 6).s.w).1])++[f]).foldl lesser e,0):=by unfold qbi;rw[hem,hok];rfl
   rw[hF];repeat' (first|(refine Bb ?_;first|with_reducible (first|refine Ba Q8H ?_|refine Ba (qab _ _ _) ?_|refine Ba (qaa _ _) ?_|refine Bk ?_|refine Ba rfl ?_|refine Ba ⟨by kernel_rfl,by kernel_rfl⟩ ?_|refine Bj ?_|refine Bh ?_|refine Bi ?_)|refine Be hem ?_|refine Bf hok ?_|refine Bc (cWF e f (GL.go (fuseW e f) false 6).s.w (jpt _ _ 6 Q8H) he hf 0 1 Q8H _ _ _ Q8I Q8I) ?_)|refine qah Q8I ?_)
   refine Bb ?_;generalize hX:(fuseW e f (GL.go (fuseW e f) false 6).s.w).1=X at *;refine qu0 (elE X) (ji4 X rfl) rfl (by show 1*5<=5;decide) Q8H Q8H (rwE 1 [e]) (fun h=>absurd h Q8H) (fun h=>absurd h Q8H) (fun _ cap hcap=>?_);have le1:ChunkLe (rwE cap ([e]++[X])) (grown (elC true e) 1 1 5 (elE X) (elE El.o) cap):=ji2 rfl rfl (quz e) hcap;refine Q01 ?_;refine qu0 (elE f) (ji4 f rfl) rfl (by show 2*5<=cap*5;omega) Q8H Q8H (rwE cap (([e]++[X])++[f])) (fun h=>joh rfl rfl rfl le1 (show 2<cap from h) rfl) (fun hr=>?_) (fun hg cap2 hcap2=>?_)
   ·skip;refine Q01 ?_;refine Bw (α:=Nat) (fun k=>k<=3) (fun k=>3-k) (fun k=>[(44,xc (k:Int))]) (fun k=>[(14,rwE cap (([e]++[X])++[f])),(15,elC true (((([e]++[X])++[f]).take k).foldl lesser e))]) 0 [(0,0),(1,1),(2,2),(3,3),(4,4),(5,5),(6,6),(7,7),(12,12),(13,13),(14,14),(15,15)] (xm _) ?_ ?_
    ·repeat' (refine Bb ?_;first|exact Bg|refine Q5U ?_|refine Q5i ?_|refine Ba (ji3 (ChunkLe.refl _)) ?_|refine Ba jh9 ?_|refine Q5H ?_|fail)
    intro k hk;by_cases hlt:k<3
    ·have st:=qgs (([e]++[X])++[f]) e k hlt;generalize hO:((([e]++[X])++[f]).take k).foldl lesser e=O;by_cases hless:((([e]++[X])++[f]).getD k El.o).tr<O.tr
     ·have hls:lesser O ((([e]++[X])++[f]).getD k El.o)=(([e]++[X])++[f]).getD k El.o:=if_pos hless;refine Q0r ?_;exact Q3a
     ·have hls:lesser O ((([e]++[X])++[f]).getD k El.o)=O:=if_neg hless;refine Q0p ?_;exact Q3a
    exact Q3s
   ·have le2:ChunkLe (rwE cap2 (([e]++[X])++[f])) (grown (grown (elC true e) 1 1 5 (elE X) (elE El.o) cap) 2 1 5 (elE f) (elE El.o) cap2):=ji2 rfl rfl (q38 le1 hcap) hcap2;refine Q01 ?_;refine Bw (α:=Nat) (fun k=>k<=3) (fun k=>3-k) (fun k=>[(44,xc (k:Int))]) (fun k=>[(16,rwE cap2 (([e]++[X])++[f])),(15,elC true (((([e]++[X])++[f]).take k).foldl lesser e)),(14,rwE cap ([e]++[X]))]) 0 [(0,0),(1,1),(2,2),(3,3),(4,4),(5,5),(6,6),(7,7),(12,12),(13,13),(14,14),(15,15),(16,16)] (xm _) ?_ ?_
    ·repeat' (refine Bb ?_;first|exact Bg|refine Q5U ?_|refine Q5i ?_|refine Ba (ji3 le2) ?_|refine Ba (ji3 le1) ?_|refine Ba jh9 ?_|refine Q5H ?_|fail)
    intro k hk;by_cases hlt:k<3
    ·have st:=qgs (([e]++[X])++[f]) e k hlt;generalize hO:((([e]++[X])++[f]).take k).foldl lesser e=O;by_cases hless:((([e]++[X])++[f]).getD k El.o).tr<O.tr
     ·have hls:lesser O ((([e]++[X])++[f]).getD k El.o)=(([e]++[X])++[f]).getD k El.o:=if_pos hless;refine Q0r ?_;exact Q30
     ·have hls:lesser O ((([e]++[X])++[f]).getD k El.o)=O:=if_neg hless;refine Q0p ?_;exact Q30
    exact Q3s
 ·have hF:qbi e (fuseW e f) [f]=(El.o,3):=by unfold qbi;rw[hem];rfl
  exact Q24
theorem q82 (e f:El) (he:e.may) (hf:f.may) (W:World):xa 142 #[elE e,elE f] W (.tuple #[elE (fuseF e f).1,xc (fuseF e f).2]):=by
 rw[show fuseF e f=qbi e (fuseW e f) [f] from if_pos ⟨he,hf⟩];refine qac (G:=tys) W tysOK mixed func142 Q8I Q8I Q8I ?_;repeat' (first|(refine Bb ?_;first|with_reducible (first|refine Ba Q8H ?_|refine Ba (qab _ _ _) ?_|refine Ba (qaa _ _) ?_|refine Bk ?_|refine Ba rfl ?_|refine Ba ⟨by kernel_rfl,by kernel_rfl⟩ ?_|refine Bj ?_|refine Bh ?_|refine Bi ?_)|refine Bc (jd6 _ _ _ _ _ _) ?_|refine Be (jlt he) ?_|refine Be (jlt hf) ?_|refine Bc (q81 e f he hf 0 1 3 true Q8H _ _ _ Q8I Q8I Q8I) ?_|refine Ba (.plain rfl) ?_|refine Ba xb ?_|exact Bg|fail)|refine qah Q8I ?_)
 all_goals rfl
theorem qi2 (e f:El) (h:Hp) (he:e.may) (hf:f.may):qaf prog 142 [elE e,elE f] h (.tuple #[elE (fuseF e f).1,xc (fuseF e f).2]) [] []:=
 qai rfl rfl (call142 _) (q82 e f he hf)
theorem q83 (e f r:El) (c:Int) (h:Hp) (hr:fuseF e f=(r,c)) (he:e.may) (hf:f.may):qaf prog 142 [elE e,elE f] h (.tuple #[elE r,xc c]) [] []:=by
 have:=qi2 e f h he hf;rw[hr] at this;exact this
end Go.Proofs.YtfkngpmgcimdbaaGreat
