/-
  Sets of points as inequalities of the second degree: what an ellipse about such a set holds: plain laws.
-/
import Derived.Test.YtfkngpmgcimdbaaGreatK6
set_option linter.unusedVariables false
set_option linter.unusedSimpArgs false
set_option maxRecDepth 100000
set_option maxHeartbeats 20000000
theorem Go.Proofs.yQ:type_of% @Int.mul_le_mul:=@Int.mul_le_mul
open Go.Proofs.Tryz
namespace Go.Proofs
section
variable{Z Y:Prop}
theorem Q06(h:Z:=by
 refine qak (G:=tys) [⟨a,_,seC true 2 1 s,seC true k m (s.ask (jez e f) w)⟩,⟨m,_,bC s.emp,bC (s.ask (jez e f) w).emp⟩,⟨k,_,jld false 3 4,⟨false,0,[]⟩⟩,⟨i,_,elC false e,⟨false,0,[]⟩⟩,⟨j,_,elC false f,⟨false,0,[]⟩⟩] [] [xd 0,xc w] tysOK mixed func207 Q9S (call207) ⟨ha,hm,hk,hi,hj,xb⟩ ⟨Q9q,b_re (nlr _) _,Q8j,el_re _,el_re _,xb⟩ QaK xb Q83 ?_;repeat' (first|(refine Ba ?_;first|refine Q5P ?_|refine Bb (cQF e f w s.emp hw he hf 2 1 3 4 Q9V _ _ _ _ Q9S Q9S Q9S Q9S) ?_|refine Q6O ?_|refine Q6q ?_|refine Q6T ?_|exact Be|fail)|refine qah Q9S ?_)):Z:=h
theorem Q08(h:Z:=by
 intro l n hok;have hn6:n<=6:=by omega
 have gw:=qdv (jez e f) b n hn6;have gx:=jhw (jez e f) b n hn6;rcases hok with ⟨rfl,hn⟩|⟨rfl,hn,hmost⟩
 .refine⟨_,rfl,?_⟩;by_cases h6:n=6
  .subst h6;have e2:(GL.go (jez e f) b 6).b-(GL.go (jez e f) b 6).a=2:=by have:=gw.1;simp only[gwide] at this;omega
   exact Q20
  .have hn5:n<6:=by omega
   have gw1:=qdv (jez e f) b (n+1) Q9R;have gx1:=jhw (jez e f) b (n+1) Q9R;have hwid:2<(GL.go (jez e f) b n).b-(GL.go (jez e f) b n).a:=by have:=gw.1;have:=qkq n hn5;omega
   have w1:IntKind.i64.wrap (IntKind.i64.wrap ((GL.go (jez e f) b n).a+(GL.go (jez e f) b n).y)-(GL.go (jez e f) b n).x)=(GL.go (jez e f) b n).a+(GL.go (jez e f) b n).y-(GL.go (jez e f) b n).x:=by rw[je5 ((GL.go (jez e f) b n).a+(GL.go (jez e f) b n).y) Q9R Q9R,je5 _ Q9R Q9R]
   rcases qdb ((GL.go (jez e f) b n).fx.most (GL.go (jez e f) b n).fy) with hm|hm
   .exact Q1u
   .have st:(GL.go (jez e f) b (n+1))=(GL.go (jez e f) b n).left (jez e f):=by show GL.step _ _=_;unfold GL.step;rw[if_pos hm]
    by_cases heq:(GL.go (jez e f) b n).a+(GL.go (jez e f) b n).y-(GL.go (jez e f) b n).x=(GL.go (jez e f) b n).x
    .have st2:(GL.go (jez e f) b (n+1))=⟨(GL.go (jez e f) b n).a,(GL.go (jez e f) b n).y,(GL.go (jez e f) b n).a+(GL.go (jez e f) b n).y-(GL.go (jez e f) b n).x,(GL.go (jez e f) b n).x,(GL.go (jez e f) b n).fx,(GL.go (jez e f) b n).fx,(GL.go (jez e f) b n).s⟩:=by rw[st];unfold GL.left;rw[if_pos heq]
     exact Q1W
    .have st2:(GL.go (jez e f) b (n+1))=⟨(GL.go (jez e f) b n).a,(GL.go (jez e f) b n).y,(GL.go (jez e f) b n).a+(GL.go (jez e f) b n).y-(GL.go (jez e f) b n).x,(GL.go (jez e f) b n).x,jfq (jez e f) ((GL.go (jez e f) b n).a+(GL.go (jez e f) b n).y-(GL.go (jez e f) b n).x),(GL.go (jez e f) b n).fx,(GL.go (jez e f) b n).s.ask (jez e f) ((GL.go (jez e f) b n).a+(GL.go (jez e f) b n).y-(GL.go (jez e f) b n).x)⟩:=by rw[st];unfold GL.left;rw[if_neg heq]
     have hr:0<=(GL.go (jez e f) b n).a+(GL.go (jez e f) b n).y-(GL.go (jez e f) b n).x/\(GL.go (jez e f) b n).a+(GL.go (jez e f) b n).y-(GL.go (jez e f) b n).x<=34:=by have:=gx1.1;rw[st2] at this;exact this
     repeat' (first|(refine Ba ?_;first|refine Q5P ?_|refine Q6Q ?_|refine Bf (by rw[hm];rfl) ?_|refine Q7N ?_|refine Bb (qq9 e f ((GL.go (jez e f) b n).a+(GL.go (jez e f) b n).y-(GL.go (jez e f) b n).x) _ (GL.go (jez e f) b n).s w1 hr he hf 4 1 0 2 3 Q9V _ _ _ _ Q9S Q9S Q9S Q9S Q9S) ?_)|refine qah Q9S ?_)
     exact Q2f
 .refine⟨_,rfl,?_⟩;have gw1:=qdv (jez e f) b (n+1) Q9R;have gx1:=jhw (jez e f) b (n+1) Q9R;have w1:IntKind.i64.wrap (IntKind.i64.wrap ((GL.go (jez e f) b n).x+(GL.go (jez e f) b n).b)-(GL.go (jez e f) b n).y)=(GL.go (jez e f) b n).x+(GL.go (jez e f) b n).b-(GL.go (jez e f) b n).y:=by rw[je5 ((GL.go (jez e f) b n).x+(GL.go (jez e f) b n).b) Q9R Q9R,je5 _ Q9R Q9R]
  have st:(GL.go (jez e f) b (n+1))=(GL.go (jez e f) b n).right (jez e f):=by show GL.step _ _=_;unfold GL.step;rw[if_neg (by rw[hmost];decide)]
  by_cases heq:(GL.go (jez e f) b n).x+(GL.go (jez e f) b n).b-(GL.go (jez e f) b n).y=(GL.go (jez e f) b n).y
  .have st2:(GL.go (jez e f) b (n+1))=⟨(GL.go (jez e f) b n).x,(GL.go (jez e f) b n).b,(GL.go (jez e f) b n).y,(GL.go (jez e f) b n).x+(GL.go (jez e f) b n).b-(GL.go (jez e f) b n).y,(GL.go (jez e f) b n).fy,(GL.go (jez e f) b n).fy,(GL.go (jez e f) b n).s⟩:=by rw[st];unfold GL.right;rw[if_pos heq]
   exact Q25
  .have st2:(GL.go (jez e f) b (n+1))=⟨(GL.go (jez e f) b n).x,(GL.go (jez e f) b n).b,(GL.go (jez e f) b n).y,(GL.go (jez e f) b n).x+(GL.go (jez e f) b n).b-(GL.go (jez e f) b n).y,(GL.go (jez e f) b n).fy,jfq (jez e f) ((GL.go (jez e f) b n).x+(GL.go (jez e f) b n).b-(GL.go (jez e f) b n).y),(GL.go (jez e f) b n).s.ask (jez e f) ((GL.go (jez e f) b n).x+(GL.go (jez e f) b n).b-(GL.go (jez e f) b n).y)⟩:=by rw[st];unfold GL.right;rw[if_neg heq]
   have hr:0<=(GL.go (jez e f) b n).x+(GL.go (jez e f) b n).b-(GL.go (jez e f) b n).y/\(GL.go (jez e f) b n).x+(GL.go (jez e f) b n).b-(GL.go (jez e f) b n).y<=34:=by have:=gx1.2.1;rw[st2] at this;exact this
   repeat' (first|(refine Ba ?_;first|refine Q5P ?_|refine Q7N ?_|refine Bb (qq9 e f ((GL.go (jez e f) b n).x+(GL.go (jez e f) b n).b-(GL.go (jez e f) b n).y) _ (GL.go (jez e f) b n).s w1 hr he hf 4 1 0 2 3 Q9V _ _ _ _ Q9S Q9S Q9S Q9S Q9S) ?_)|refine qah Q9S ?_)
   exact Q2i):Z:=h
theorem Q0h(h:Z:=by
 rw[st,hO,hls];repeat' (refine Ba ?_;first|exact Be|refine Q5W ?_|refine Q7l ?_|refine Q6d ?_|refine Bc (reI Qb5) ?_|refine Bc jo7 ?_|refine Bc ji1 ?_|refine Bc jml ?_|refine Q6I ?_|fail)):Z:=h
theorem Q0w(k:Y)(h:Wr Y->Z:=by
 intro kQ;repeat' (refine Ba ?_;first|refine Q5P ?_|refine Q64 ?_|refine Q7M ?_|refine Bf (by rw[xm];exact hless) ?_|fail)
 refine Ba ?_;exact kQ.o):Z:=h ⟨k⟩
theorem Q0z(k:Y)(h:Wr Y->Z:=by
 intro kQ;repeat' (refine Ba ?_;first|refine Q5P ?_|refine Q64 ?_|refine Q7M ?_|refine Bg (by rw[xh];exact hless) ?_|fail)
 refine Ba ?_;exact kQ.o):Z:=h ⟨k⟩
theorem Q0Q(h:Z:=by repeat' (refine Ba ?_;first|refine Q5P ?_|refine Q66 ?_|refine Q6o ?_|refine Bc xb ?_|exact Be|fail)):Z:=h
theorem Q18(h:Z:=by
 rw[st2];repeat (refine Ba ?_;first|exact Be|refine Q5W ?_|refine Q6a ?_|refine Bc (qax w1) ?_|refine Bc (ChunkLe.of Q9S) ?_)):Z:=h
theorem Q1h(h:Z:=by repeat' (refine Ba ?_;first|exact Be|refine Q5W ?_|refine Q7l ?_|refine Q6d ?_|refine Bc (jjx le1) ?_|refine Bc ji1 ?_|refine Bc jml ?_|refine Q6I ?_|fail)):Z:=h
theorem Q1u(h:Z:=by
 repeat' (first|(refine Ba ?_;first|refine Q5P ?_|refine Q6Q ?_|refine Bg (by rw[hm];rfl) ?_)|refine qah Q9S ?_)
 refine Ba ?_;refine N.next n ⟨.inr ⟨rfl,hn5,hm⟩,by show(if 1=0 then _ else _)<(if 0=0 then _ else _);simp⟩ ?_;exact Q4s):Z:=h
theorem Q1L(h:Z:=by
 have two:Bd (2:Int) 1:=Bd.of (n:=2) Q9V;exact Bd.add 545 ((Bd.sub 217 hi.Den hi.Z).mul dB) (Bd.add 544 (Bd.add 543 (bD.mul (bU.mul bU)) (bA.mul (bV.mul bV))) (two.mul (bB.mul (bU.mul bV))).neg)):Z:=h
theorem Q1T(h:Z:=by repeat (refine Ba ?_;first|exact Be|refine Q5W ?_|refine Q6a ?_|refine Bc (ChunkLe.of Q9S) ?_|refine Bc (qax Q9S) ?_)):Z:=h
theorem Q1W(h:Z:=by
 repeat' (first|(refine Ba ?_;first|refine Q5P ?_|refine Q6Q ?_|refine Bf (by rw[hm];rfl) ?_|refine Bf (by rw[w1,heq];simp) ?_)|refine qah Q9S ?_)
 exact Q4h):Z:=h
theorem Q20(h:Z:=by repeat' (first|(refine Ba ?_;first|refine Q5P ?_|refine Bg (by rw[xh,je5 _ Q9R Q9R];omega) ?_|refine Q6o ?_|refine Q6y ?_|exact Be|fail)|refine qah Q9S ?_)):Z:=h
theorem Q25(h:Z:=by
 repeat' (first|(refine Ba ?_;first|refine Q5P ?_|refine Bf (by rw[w1,heq];simp) ?_)|refine qah Q9S ?_)
 exact Q4i):Z:=h
theorem Q2f(h:Z:=by exact Q4h):Z:=h
theorem Q2i(h:Z:=by exact Q4i):Z:=h
theorem Q2o(h:Z:=by
 rw[hF];repeat' (first|(refine Ba ?_;first|refine Q5P ?_|refine Bg hem ?_|refine Q6o ?_|refine Bc xb ?_|exact Be|fail)|refine qah Q9S ?_)):Z:=h
theorem Q2u(k:Y)(h:Wr Y->Z:=by
 intro kQ;refine qac (G:=tys) W tysOK mixed func213 Q9S (by simp[qbd]) Q9S ?_;exact kQ.o):Z:=h ⟨k⟩
theorem Q3w(h:Z:=by
 refine Bm (α:=Nat) (k+1) [(0,0),(1,1),(2,2),(3,3),(4,4),(5,5),(6,6),(7,7),(12,12),(13,13),(14,14),(15,15),(16,16)] ⟨by show k+1<=3;omega,by show 3-(k+1)<3-k;omega⟩ ?_;exact Q0h):Z:=h
theorem Q3G(h:Z:=by
 refine Bm (α:=Nat) (k+1) [(0,0),(1,1),(2,2),(3,3),(4,4),(5,5),(6,6),(7,7),(12,12),(13,13),(14,14),(15,15)] ⟨by show k+1<=3;omega,by show 3-(k+1)<3-k;omega⟩ ?_;exact Q0h):Z:=h
theorem Q3W(h:Z:=by
 refine Bm (α:=Nat) (k+1) [(0,0),(1,1),(2,2),(3,3),(4,4),(5,5),(6,6),(7,7),(8,8),(9,9)] ⟨by show k+1<=2;omega,by show 2-(k+1)<2-k;omega⟩ ?_;exact Q0h):Z:=h
theorem Q41(h:Z:=by
 .obtain rfl:k=3:=by omega
  rw[show((([e]++[X])++[f]).take 3).foldl lesser e=(([e]++[X])++[f]).foldl lesser e from qi8 (([e]++[X])++[f]) e];exact Q0Q):Z:=h
theorem Q4g(h:Z:=by
 rw[List.take_add_one,xt h,Option.toList_some,List.foldl_append,xD,xt h];rfl):Z:=h
theorem Q4h(h:Z:=by
 refine Ba ?_;refine N.next (n+1) ⟨.inl ⟨rfl,by omega⟩,by show(if 0=0 then _ else _)<(if 0=0 then _ else _);simp;omega⟩ ?_;exact Q18):Z:=h
theorem Q4i(h:Z:=by
 refine Ba ?_;refine N.next (n+1) ⟨.inl ⟨rfl,by omega⟩,by show(if 0=0 then _ else _)<(if 1=0 then _ else _);simp;omega⟩ ?_;exact Q18):Z:=h
theorem Q5X(k:Y)(h:Wr Y->Z:=by intro kQ;(first|refine Bb (cMulz (i.A) (i.D) _ bA.b16 bD.b16 (bA.mul bD).top) ?_|refine Bb (cMulz (i.B) (i.B) _ bB.b16 bB.b16 (bB.mul bB).top) ?_|refine Bb (jic (i.A*i.D) (i.B*i.B) _ ad.top bb.top dB.top) ?_|refine Bb (cMulz (i.D) (i.U) _ bD.b16 bU.b16 (bD.mul bU).top) ?_|refine Bb (cMulz (i.B) (i.V) _ bB.b16 bV.b16 (bB.mul bV).top) ?_|refine Bb (jic (i.D*i.U) (i.B*i.V) _ du.top bv.top xB.top) ?_|refine Bb (cMulz (i.A) (i.V) _ bA.b16 bV.b16 (bA.mul bV).top) ?_|refine Bb (cMulz (i.B) (i.U) _ bB.b16 bU.b16 (bB.mul bU).top) ?_|refine Bb (jic (i.A*i.V) (i.B*i.U) _ av.top bu.top yB.top) ?_|refine Bb (qj5 i i.d _ hi dB) ?_|refine Bb (cMulz (i.d) (i.d) _ dB.b16 dB.b16 (dB.mul dB).top) ?_|refine Bb (cMulz (i.level) (i.D) _ lB.b16 bD.b16 (lB.mul bD).top) ?_|refine Bb (cMulz (i.level) (i.A) _ lB.b16 bA.b16 (lB.mul bA).top) ?_|refine Bb (cMulz (i.level) (i.B) _ lB.b16 bB.b16 (lB.mul bB).top) ?_|refine Bb (jmh (i.level*i.B) _ rB.top) ?_|refine Bb (jrn i _) ?_|refine Bb (qj6 i.d i.x i.y i.level (i.d*i.d) (i.level*i.D) (i.level*i.A) (-(i.level*i.B)) 74 _ _ Q9S) ?_|refine Bb (jid i.A _ bA.top) ?_|refine Bb (jid i.d _ dB.top) ?_|refine Bb (jid i.level _ lB.top) ?_|refine Bc (qcp _) ?_|fail);exact kQ.o):Z:=h ⟨k⟩
theorem Q62(k:Y)(h:Wr Y->Z:=by intro kQ;(first|refine Bf QaR ?_|refine Bf (by rw[xm,qjs];omega) ?_|refine Bb (jni i.x i.d 0 (je6 i.x i.d) 0 75 _ xB.top x2.top x3.top hd dB.top d2.top z1 b1 Q9S) ?_|refine Bb (jni i.y i.d 0 (je6 i.y i.d) 0 75 _ yB.top y2.top y3.top hd dB.top d2.top z2 b2 Q9S) ?_|refine Bb (jnj (i.level*i.D) (i.d*i.d) 0 (je1 (i.level*i.D) (i.d*i.d)) 0 75 _ pB.top sP sB.top z3 b3 Q9S) ?_|refine Bb (jnj (i.level*i.A) (i.d*i.d) 0 (je1 (i.level*i.A) (i.d*i.d)) 0 75 _ qB.top sP sB.top z4 b4 Q9S) ?_|refine Bb (jqq (-(i.level*i.B)) (i.d*i.d) 0 (-(i.level*i.B) / (i.d*i.d)) 0 75 _ rB.neg.top sP sB.top z5 b5 Q9S) ?_|refine Bf Q9V ?_|fail);exact kQ.o):Z:=h ⟨k⟩
theorem Q6d(k:Y)(h:Wr Y->Z:=by intro kQ;(first|refine Bc (.plain Q9S) ?_|refine Bc (.one (.ptr rfl)) ?_|refine Bc (.one (.slice rfl)) ?_|fail);exact kQ.o):Z:=h ⟨k⟩
theorem Q6f(k:Y)(h:Wr Y->Z:=by intro kQ;(first|refine Bi 1 0 Q9V Q9V ?_|refine Bi 2 0 Q9V Q9V ?_|refine Bi 3 0 Q9V Q9V ?_|fail);exact kQ.o):Z:=h ⟨k⟩
theorem Q6p(k:Y)(h:Wr Y->Z:=by intro kQ;(first|refine Bb (cEMay _ _ _ _ _ _) ?_|refine Bb (qsp _ _ _ _ _ _) ?_|refine Bf Qba ?_|refine Bf (by rw[xg hf];rfl) ?_|refine Bb (quy (usq (trP ex ey ea eb ed).toNat) (usq (trP fx fy fa fb fd).toNat) ea fa 0 hs ht Q9R Q9R 11 12 13 _ Q9S Q9S Q9S Q9V) ?_|refine Bb (quy (usq (trP ex ey ea eb ed).toNat) (usq (trP fx fy fa fb fd).toNat) ed fd _ hs ht Q9R Q9R 11 12 13 _ Q9S Q9S Q9S Q9V) ?_|refine Bb (q6a (usq (trP ex ey ea eb ed).toNat) (usq (trP fx fy fa fb fd).toNat) eb fb _ hs ht Q9R Q9R 11 12 13 _ Q9S Q9S Q9S Q9V) ?_|refine Bf (neF hb) ?_|fail);exact kQ.o):Z:=h ⟨k⟩
theorem Q6y(k:Y)(h:Wr Y->Z:=by intro kQ;(first|refine Bc ⟨⟨_,rfl,id,nlr _,g1 (.plain rfl)⟩,xb⟩ ?_|refine Bc xb ?_|fail);exact kQ.o):Z:=h ⟨k⟩
theorem Q6A(k:Y)(h:Wr Y->Z:=by intro kQ;(first|refine Bb (cEMay _ _ _ _ _ _) ?_|fail);exact kQ.o):Z:=h ⟨k⟩
theorem Q6I(k:Y)(h:Wr Y->Z:=by intro kQ;(first|refine Bc jrq ?_|refine Bc (ji1 (e:=El.o)) ?_|refine Bc ⟨id,nlr _,g1 (.func xb ⟨.ptr rfl,.ptr rfl,xb⟩)⟩ ?_|fail);exact kQ.o):Z:=h ⟨k⟩
theorem Q6O(k:Y)(h:Wr Y->Z:=by intro kQ;(first|refine Bg h1 ?_|refine Bf h1 ?_|refine Bg Qbf ?_|refine Bf Qbf ?_|refine Bg (by rw[xh];assumption) ?_|refine Bf (by rw[xm];assumption) ?_|refine Bg (by rw[yv];assumption) ?_|refine Bf (by rw[beq_eq_false_iff_ne];assumption) ?_|fail);exact kQ.o):Z:=h ⟨k⟩
theorem Q6Q(k:Y)(h:Wr Y->Z:=by intro kQ;(first|refine Bf (by rw[xm,je5 _ Q9R Q9R];omega) ?_|refine Bb (jlc _ _ _) ?_|fail);exact kQ.o):Z:=h ⟨k⟩
theorem Q6T(k:Y)(h:Wr Y->Z:=by intro kQ;(first|refine Bc ⟨⟨_,rfl,id,nlr _,g4 (.func xb ⟨.ptr rfl,.ptr rfl,xb⟩) (by first|exact .plain rfl|exact jrp (by rw[hs'])|(rw[hs'];exact .plain rfl)) (by rw[hs'];exact .plain rfl) (by rw[hs'];exact .plain rfl)⟩,⟨_,rfl,id,nlr _,g1 (by rw[hemp];exact .plain rfl)⟩,xb⟩ ?_|refine Bc xb ?_|fail);exact kQ.o):Z:=h ⟨k⟩
theorem Q6X(k:Y)(h:Wr Y->Z:=by intro kQ;(first|with_reducible refine N.max2 ?_|fail);exact kQ.o):Z:=h ⟨k⟩
theorem Q7k(k:Y)(h:Wr Y->Z:=by intro kQ;(first|refine Bb (qeg z0 _) ?_|refine Bb (qeg z1 _) ?_|refine Bb (qeg z2 _) ?_|refine Bb (qeg z3 _) ?_|refine Bb (qeg z4 _) ?_|refine Bb (qeg z5 _) ?_|refine Bb (qeg z6 _) ?_|fail);exact kQ.o):Z:=h ⟨k⟩
theorem Q7l(k:Y)(h:Wr Y->Z:=by intro kQ;(first|refine Bc (.one (.func xb ⟨.ptr rfl,.ptr rfl,xb⟩)) ?_|fail);exact kQ.o):Z:=h ⟨k⟩
theorem Q7z(k:Y)(h:Wr Y->Z:=by intro kQ;(first|refine Bc (.plain (qad _)) ?_|refine Bc xb ?_|fail);exact kQ.o):Z:=h ⟨k⟩
theorem Q7I(k:Y)(h:Wr Y->Z:=by intro kQ;(first|refine Bi 4 0 Q9V Q9V ?_|refine Bi 5 0 Q9V Q9V ?_|refine Bi 6 0 Q9V Q9V ?_|fail);exact kQ.o):Z:=h ⟨k⟩
theorem Q7M(k:Y)(h:Wr Y->Z:=by intro kQ;(first|refine Bi k 1 rfl Q9R ?_|refine Bk _ (jo6 (j:=k) Q9R rfl rfl) ?_|refine Bb (qe0 _ _ _ _ _ _) ?_|fail);exact kQ.o):Z:=h ⟨k⟩
theorem Q7N(k:Y)(h:Wr Y->Z:=by intro kQ;(first|refine Bg (by rw[w1];simpa using heq) ?_|fail);exact kQ.o):Z:=h ⟨k⟩
theorem Q8j(h:Z:=by first|exact ⟨λh=>Qaa,nlr _,g1 (.func xb ⟨.ptr rfl,.ptr rfl,xb⟩)⟩|fail):Z:=h
theorem Q8L(h:Z:=by first|exact ⟨λh=>⟨rfl,nlr _⟩,nlr _,g1 (.plain rfl)⟩|fail):Z:=h
theorem Q91(h:Z:=by first|exact ⟨λh=>Qaa,nlr _,g1 (.plain rfl)⟩|fail):Z:=h
theorem Q9a(h:Z:=by first|exact ⟨.plain rfl,.plain (qad _),.plain (qad _),.ptr rfl,xb⟩|fail):Z:=h
theorem Q9c(h:Z:=by first|exact ⟨.plain rfl,.ptr rfl,.ptr rfl,xb⟩|fail):Z:=h
theorem Q9q(h:Z:=by first|exact ⟨λh=>⟨rfl,nlr _⟩,nlr _,g4 (.func xb Q8r) (.plain rfl) (.plain rfl) (.plain rfl)⟩|fail):Z:=h
theorem Q9A(h:Z:=by first|exact .inr ⟨rfl,by decide,by have:=hb;simp only[zr] at this;exact this⟩|fail):Z:=h
theorem Q9B(h:Z:=by first|exact ⟨rfl,rfl,rfl,λw=>by go_simp;by_cases h1:a=c<;>by_cases h2:b=d<;>simp[h1,h2]⟩|fail):Z:=h
theorem Q9Q(h:Z:=by first|exact ⟨.plain rfl,.plain rfl,.plain rfl,.ptr rfl,.ptr rfl,.ptr rfl,xb⟩|fail):Z:=h
theorem Qas(h:Z:=by simp[Apart,hij]):Z:=h
theorem QaJ(h:Z:=by simp[qam,qbd];rfl):Z:=h
theorem QaK(h:Z:=by simp[Apart];omega):Z:=h
theorem QaR(h:Z:=by rw[xm,qi6];omega):Z:=h
theorem Qb6(h:Z:=by have:=hb;simp only[zN] at this;exact this):Z:=h
theorem Qba(h:Z:=by rw[xg he];rfl):Z:=h
theorem Qbf(h:Z:=by rw[h2];rfl):Z:=h
end
end Go.Proofs

namespace Go.Proofs.YtfkngpmgcimdbaaGreat
open Go Go.RowKit Sx
structure Inf where
 A:Int
 B:Int
 D:Int
 U:Int
 V:Int
 Z:Int
 Den:Int
def Inf.val(i:Inf)(X Y:Int):Int:=i.A*(X*X)+2*(i.B*(X*Y))+i.D*(Y*Y)-2*(i.U*X+i.V*Y)+i.Z
def Inf.holds(i:Inf)(X Y:Int):Prop:=i.val X Y<=i.Den
def jrh(cx cy a b d:Int):Inf:=⟨d,-b,a,d*cx + -b*cy,-b*cx+a*cy,jf9 d (-b) a cx cy,a*d-b*b⟩
def jri(ox oy hx hy lo hi:Int):Inf:=⟨2*hx*(2*hx),2*hx*(2*hy),2*hy*(2*hy),(lo+hi+2*hx*ox+2*hy*oy)*(2*hx),(lo+hi+2*hx*ox+2*hy*oy)*(2*hy),(lo+hi+2*hx*ox+2*hy*oy)*(lo+hi+2*hx*ox+2*hy*oy),(hi-lo)*(hi-lo)⟩
def jja(i j:Inf)(w:Int):Inf:=
 ⟨i.A*(w*j.Den)+j.A*((34-w)*i.Den),i.B*(w*j.Den)+j.B*((34-w)*i.Den),i.D*(w*j.Den)+j.D*((34-w)*i.Den),i.U*(w*j.Den)+j.U*((34-w)*i.Den),i.V*(w*j.Den)+j.V*((34-w)*i.Den),i.Z*(w*j.Den)+j.Z*((34-w)*i.Den),34*(i.Den*j.Den)⟩
def Inf.d(i:Inf):Int:=i.A*i.D-i.B*i.B
def Inf.x(i:Inf):Int:=i.D*i.U-i.B*i.V
def Inf.y(i:Inf):Int:=i.A*i.V-i.B*i.U
def Inf.level(i:Inf):Int:=(i.Den-i.Z)*i.d+((i.D*(i.U*i.U)+i.A*(i.V*i.V)) + -(2*(i.B*(i.U*i.V))))
def jrj(a b d s t:Int):Int:=a*(s*s)+2*(b*(s*t))+d*(t*t)
def dom(a b d u v q:Int):Prop:=∀s t:Int,(u*s+v*t)*(u*s+v*t)<=q*q*jrj a b d s t
def je1(p s:Int):Int:=-(-p / s)
def je6(x d:Int):Int:=(x+x+d) / (d+d)
structure El where
 x:Int
 y:Int
 a:Int
 b:Int
 d:Int
def El.may(e:El):Prop:=mayP e.x e.y e.a e.b e.d
instance(e:El):Decidable e.may:=by unfold El.may;infer_instance
def El.tr(e:El):Int:=if e.may then e.a+e.d else 0
abbrev El.o:El:=⟨0,0,0,0,0⟩
def El.at(e:El)(X Y:Int):Prop:=qup e.a e.b e.d (X-e.x) (Y-e.y)
def El.rad(e:El):Nat:=usq e.tr.toNat
def jlv(e f:El):El:=
 ⟨e.x+f.x,e.y+f.y,je1 (((e.rad:Int)+f.rad)*e.a) e.rad+je1 (((e.rad:Int)+f.rad)*f.a) f.rad+2,((e.rad:Int)+f.rad)*e.b / e.rad+((e.rad:Int)+f.rad)*f.b / f.rad,je1 (((e.rad:Int)+f.rad)*e.d) e.rad+je1 (((e.rad:Int)+f.rad)*f.d) f.rad+2⟩
def jie(e f:El):El×Int:=if e.may/\f.may then (if (jlv e f).may then (jlv e f,0) else (El.o,2)) else (El.o,1)
def jff(x y r:Int):El:=⟨x,y,r*r,0,r*r⟩
def qfv(e:El)(r:Int):El×Int:=if e.may/\0<=r/\r<=4194304 then (if r=0 then (e,0) else jie e (jff 0 0 r)) else (El.o,1)
def jg9(e:El)(speed ticks:Int):El×Int:=if e.may/\0<=speed/\0<=ticks then (if 0<ticks/\4194304 / ticks<speed then (El.o,2) else qfv e (speed*ticks)) else (El.o,1)
def Inf.mid(i:Inf):El:=⟨je6 i.x i.d,je6 i.y i.d,je1 (i.level*i.D) (i.d*i.d)+1,-(i.level*i.B) / (i.d*i.d),je1 (i.level*i.A) (i.d*i.d)+1⟩
def jiy(i:Inf):El×Int:=if i.A<=0\/i.d<=0 then (El.o,1) else if i.level<0 then (El.o,3) else if i.mid.may then qfv i.mid 1 else (El.o,2)
def El.inf(e:El):Inf:=jrh e.x e.y e.a e.b e.d
def jez(e f:El)(w:Int):El×Int:=if 0<=w/\w<=34 then jiy (jja e.inf f.inf w) else (El.o,1)
structure Strip where
 ox:Int
 oy:Int
 hx:Int
 hy:Int
 lo:Int
 hi:Int
def Strip.may(s:Strip):Prop:=qa1 4194304 s.ox s.oy/\qa1 16777216 s.hx s.hy/\¬ (s.hx=0/\s.hy=0)/\-1125899906842624<=s.lo/\s.lo<s.hi/\s.hi<=1125899906842624
instance(s:Strip):Decidable s.may:=by unfold Strip.may;infer_instance
def Strip.inf(s:Strip):Inf:=jri s.ox s.oy s.hx s.hy s.lo s.hi
def je0(e:El)(s:Strip)(w:Int):El×Int:=if 0<=w/\w<=34 then jiy (jja e.inf s.inf w) else (El.o,1)
structure GV where
 n:Int
 ok:Bool
def GV.most(v w:GV):Bool:=!w.ok||(v.ok&&decide (v.n<=w.n))
structure GS where
 w:Int
 best:GV
 emp:Bool
def jfq(of:Int->El×Int)(w:Int):GV:=⟨(of w).1.tr,decide ((of w).2=0)⟩
def GS.ask(of:Int->El×Int)(s:GS)(w:Int):GS:=
 if (jfq of w).ok&&(!s.best.ok||decide ((jfq of w).n<s.best.n)||(decide ((jfq of w).n=s.best.n)&&decide (w<s.w))) then ⟨w,jfq of w,s.emp||decide ((of w).2=3)⟩ else ⟨s.w,s.best,s.emp||decide ((of w).2=3)⟩
structure GL where
 a:Int
 b:Int
 x:Int
 y:Int
 fx:GV
 fy:GV
 s:GS
def GL.left(of:Int->El×Int)(l:GL):GL:=
 if l.a+l.y-l.x=l.x then ⟨l.a,l.y,l.a+l.y-l.x,l.x,l.fx,l.fx,l.s⟩ else ⟨l.a,l.y,l.a+l.y-l.x,l.x,jfq of (l.a+l.y-l.x),l.fx,l.s.ask of (l.a+l.y-l.x)⟩
def GL.right(of:Int->El×Int)(l:GL):GL:=
 if l.x+l.b-l.y=l.y then ⟨l.x,l.b,l.y,l.x+l.b-l.y,l.fy,l.fy,l.s⟩ else ⟨l.x,l.b,l.y,l.x+l.b-l.y,l.fy,jfq of (l.x+l.b-l.y),l.s.ask of (l.x+l.b-l.y)⟩
def GL.step(of:Int->El×Int)(l:GL):GL:=if l.fx.most l.fy then l.left of else l.right of
def GS.first(of:Int->El×Int)(e:Bool):GS:=(GS.ask of ⟨0,⟨0,false⟩,e⟩ 13).ask of 21
def GL.start(of:Int->El×Int)(e:Bool):GL:=⟨0,34,13,21,jfq of 13,jfq of 21,GS.first of e⟩
def GL.go(of:Int->El×Int)(e:Bool):Nat->GL
 | 0=>GL.start of e
 | n+1=>(GL.go of e n).step of
def gwide:Nat->Int×Int×Int
 | 0=>(34,13,21)
 | 1=>(21,8,13)
 | 2=>(13,5,8)
 | 3=>(8,3,5)
 | 4=>(5,2,3)
 | 5=>(3,1,2)
 | _=>(2,1,1)
theorem qdv(of:Int->El×Int)(e:Bool):∀n,n<=6->(GL.go of e n).b=(GL.go of e n).a+(gwide n).1/\(GL.go of e n).x=(GL.go of e n).a+(gwide n).2.1/\(GL.go of e n).y=(GL.go of e n).a+(gwide n).2.2/\0<=(GL.go of e n).a/\(GL.go of e n).b<=34:=by
 intro n
 induction n with
 | zero=>intro _;simp[GL.go,GL.start,gwide]
 | succ n ih=>
  intro hn;obtain⟨h1,h2,h3,h4,h5⟩:=ih Q9R;have hn':n=0\/n=1\/n=2\/n=3\/n=4\/n=5:=by omega
  simp only[GL.go];generalize GL.go of e n=l at *;unfold GL.step GL.left GL.right;rcases hn' with rfl|rfl|rfl|rfl|rfl|rfl<;>simp only[gwide] at *<;>(split<;>split<;>simp only[]<;>omega)
def lesser(out x:El):El:=if x.tr<out.tr then x else out
def qbq(e:El)(of:Int->El×Int)(more:List El):El×Int:=
 if (GL.go of false 6).s.emp then (El.o,3) else ((([e]++(if (GL.go of false 6).s.best.ok then [(of (GL.go of false 6).s.w).1] else []))++more).foldl lesser e,0)
def je7(e f:El):El×Int:=if e.may/\f.may then qbq e (jez e f) [f] else (El.o,1)
def jgk(e:El)(s:Strip):El×Int:=if e.may/\s.may then qbq e (je0 e s) [] else (El.o,1)
variable{e:El}
theorem q8t(h:e.may):(0:Int)<e.rad:=by
 have hm:=h;unfold El.may mayP at hm;have h1:=qzd e.tr.toNat;have e1:e.tr=e.a+e.d:=by unfold El.tr;rw[if_pos h]
 unfold El.rad;rcases xU (usq e.tr.toNat) with h0|h0
 .rw[h0] at h1;omega
 .omega
theorem q3z{f r:El}(h:jie e f=(r,0)):r.may/\e.may/\f.may/\r=jlv e f:=by
 unfold jie at h;split at h
 .rename_i h1;split at h
  .rename_i h2;obtain rfl:jlv e f=r:=by injection h
   exact⟨h2,h1.1,h1.2,rfl⟩
  .injection h with _ h;cases h
 .injection h with _ h;cases h
theorem qq5{g:El}{r:Int}(h:qfv e r=(g,0)):g.may/\e.may:=by
 unfold qfv at h;split at h
 .rename_i h1;split at h
  .obtain rfl:e=g:=by injection h
   exact⟨h1.1,h1.1⟩
  .exact⟨(q3z h).1,h1.1⟩
 .injection h with _ h;cases h
theorem q30{g:El}{s k:Int}(h:jg9 e s k=(g,0)):g.may:=by
 unfold jg9 at h;split at h
 .split at h
  .injection h with _ h;cases h
  .exact(qq5 h).1
 .injection h with _ h;cases h
theorem q0a{i:Inf}{g:El}(h:jiy i=(g,0)):g.may:=by
 unfold jiy at h;split at h
 .injection h with _ h;cases h
 .split at h
  .injection h with _ h;cases h
  .split at h
   .exact(qq5 h).1
   .injection h with _ h;cases h
def GS.good(of:Int->El×Int)(s:GS):Prop:=s.best.ok=true->s.best=jfq of s.w
theorem qkp{of:Int->El×Int}{s:GS}(h:s.good of)(w:Int):(s.ask of w).good of/\((∀w,(of w).2≠3)->s.emp=false->(s.ask of w).emp=false):=by
 unfold GS.ask;split
 .exact⟨λ_=>rfl,λh3 he=>by simp[he,h3 w]⟩
 .exact⟨h,λh3 he=>by simp[he,h3 w]⟩
theorem q0b{of:Int->El×Int}{l:GL}(h:l.s.good of):(l.step of).s.good of/\((∀w,(of w).2≠3)->l.s.emp=false->(l.step of).s.emp=false):=by
 unfold GL.step GL.left GL.right;split<;>split
 .exact⟨h,λ_ he=>he⟩
 .exact qkp h _
 .exact⟨h,λ_ he=>he⟩
 .exact qkp h _
theorem q8u(of:Int->El×Int):∀n,(GL.go of false n).s.good of/\((∀w,(of w).2≠3)->(GL.go of false n).s.emp=false):=by
 intro n
 induction n with
 | zero=>
  have h0:GS.good of ⟨0,⟨0,false⟩,false⟩:=λh=>by cases h
  have h1:=qkp h0 13;have h2:=qkp h1.1 21;exact⟨h2.1,λh3=>h2.2 h3 (h1.2 h3 rfl)⟩
 | succ n ih=>
  have h1:=q0b ih.1;exact⟨h1.1,λh3=>h1.2 h3 (ih.2 h3)⟩
theorem qsu(P:El->Prop):∀(l:List El)(o:El),P o->(∀x∈l,P x)->P (l.foldl lesser o)/\(l.foldl lesser o).tr<=o.tr:=by
 intro l
 induction l with
 | nil=>exact λo h _=>⟨h,xY _⟩
 | cons a l ih=>
  intro o h hl;have h1:P (lesser o a)/\(lesser o a).tr<=o.tr:=by
   unfold lesser;split
   .exact⟨hl a Qa2,by omega⟩
   .exact⟨h,xY _⟩
  have h2:=ih (lesser o a) h1.1 (λx hx=>hl x Qb3);exact⟨h2.1,Int.le_trans h2.2 h1.2⟩
theorem qh8(P:El->Prop){of:Int->El×Int}{more:List El}(he:P e)(hof:∀w g,of w=(g,0)->P g)(hm:∀f∈more,P f){r:El}{c:Int}(h:qbq e of more=(r,c)):(c=0/\P r/\r.tr<=e.tr)\/c=3/\r=El.o:=by
 unfold qbq at h;split at h
 .injection h with h1 h2;exact .inr ⟨h2.symm,h1.symm⟩
 .injection h with h1 h2;left;refine⟨h2.symm,?_⟩;subst h1;refine qsu P _ e he λx hx=>?_
  simp only[yM,xj,xK,or_false] at hx;rcases hx with (rfl|hx)|hx
  .exact he
  .split at hx
   .rename_i hok;simp only[xj,xK,or_false] at hx;subst hx;have:=(q8u of 6).1 hok;rw[this] at hok;have hz:(of (GL.go of false 6).s.w).2=0:=by simpa[jfq] using hok
    exact hof _ _ (by rw[<-hz])
   .cases hx
  .exact hm x hx
open Go Go.RowKit Sx
abbrev gc(x:Int):Chunk:=⟨true,1,[(0,1,xc x)]⟩
abbrev gcR(x:Int):Chunk:=⟨false,1,[(0,1,xc x)]⟩
variable{p:Nat->Prop}
theorem g1(h:p 0):∀j,j<1->p j:=λj hj=>by
 obtain rfl:j=0:=by omega
 exact h
theorem qq6(w:World)(ts:Array TypeId)(t:TypeId)(k:IntKind)(x y z:Int):(Builtin.max_ ts t #[.int k x,.int k y,.int k z]).run prog w=.ok (.int k (if z > (if y > x then y else x) then z else (if y > x then y else x))) w:=by
 simp[Builtin.max_,Builtin.max2]
variable{k:IntKind}{z:Int}
theorem N.max3{ts:Array TypeId}{t:TypeId}{x y:Int}{K:Value->Prop}(h:K (.int k (max (max x y) z))):N (qte prog .max ts t [.int k x,.int k y,.int k z] K):=by
 refine N.mk ⟨.int k (max (max x y) z),⟨rfl,rfl,λcs w=>?_⟩,h⟩;have e:(if y > x then y else x)=max x y:=by split<;>omega
 have e2:(if z > max x y then z else max x y)=max (max x y) z:=by split<;>omega
 show(do pure (Next.value (<-Builtin.max_ ts t #[.int k x,.int k y,.int k z])):Sem _).run prog w=_;rw[Sem.run_bind,qq6,e,e2];rfl
abbrev fnV(g:FuncId):Value:=.func (.func g) #[] #[]
theorem quy(s t:Nat)(x y bad:Int)(hs:0<s/\s<1073741824)(ht:0<t/\t<1073741824)(hx : -9223372036854775808<=x/\x<9223372036854775808)(hy : -9223372036854775808<=y/\y<9223372036854775808)(i j k:Nat)(h:Hp)(hi:h[i]?=some (some (gc (s:Int))))(hj:h[j]?=some (some (gc (t:Int))))(hk:h[k]?=some (some (gc bad)))(hne:i≠j/\i≠k/\j≠k):
  qae prog 223 [fnV 172,xc x,xc y,xd i,xd j,xd k] h (xc (IntKind.i64.wrap (n64 (-(-(IntKind.i64.wrap ((s:Int)+t)*x) / (s:Int)))+n64 (-(-(IntKind.i64.wrap ((s:Int)+t)*y) / (t:Int)))))) [(k,gc (max (max bad (e64 (-(-(IntKind.i64.wrap ((s:Int)+t)*x) / (s:Int))))) (e64 (-(-(IntKind.i64.wrap ((s:Int)+t)*y) / (t:Int))))))] [i,j]:=by
 have e1:IntKind.i64.wrap ((s:Int)+t)=(s:Int)+t:=je5 _ Q9R Q9R
 refine qak (G:=tys) [⟨i,_,gcR (s:Int),⟨false,0,[]⟩⟩,⟨j,_,gcR (t:Int),⟨false,0,[]⟩⟩,⟨k,_,gc bad,gc (max (max bad (e64 (-(-(IntKind.i64.wrap ((s:Int)+t)*x) / (s:Int))))) (e64 (-(-(IntKind.i64.wrap ((s:Int)+t)*y) / (t:Int)))))⟩] [] [fnV 172,xc x,xc y,xd 0,xd 1,xd 2] tysOK mixed func223 Q9S (call223) ⟨hi,hj,hk,xb⟩ ⟨Q91,Q91,Q8L,xb⟩ Qbd xb Q9Q ?_
 repeat' (refine Ba ?_;first|refine Q5P ?_|refine Bb (qlt (IntKind.i64.wrap ((s:Int)+t)) x s _ Q9R Q9R hx.1 hx.2 Q9R Q9R) ?_|refine Bb (qlt (IntKind.i64.wrap ((s:Int)+t)) y t _ Q9R Q9R hy.1 hy.2 Q9R Q9R) ?_|with_reducible refine N.max3 ?_|refine Q6q ?_|refine Q6y ?_|exact Be|fail)
theorem q6a(s t:Nat)(x y bad:Int)(hs:0<s/\s<1073741824)(ht:0<t/\t<1073741824)(hx : -9223372036854775808<=x/\x<9223372036854775808)(hy : -9223372036854775808<=y/\y<9223372036854775808)(i j k:Nat)(h:Hp)(hi:h[i]?=some (some (gc (s:Int))))(hj:h[j]?=some (some (gc (t:Int))))(hk:h[k]?=some (some (gc bad)))(hne:i≠j/\i≠k/\j≠k):
  qae prog 223 [fnV 171,xc x,xc y,xd i,xd j,xd k] h (xc (IntKind.i64.wrap (n64 (IntKind.i64.wrap ((s:Int)+t)*x / (s:Int))+n64 (IntKind.i64.wrap ((s:Int)+t)*y / (t:Int))))) [(k,gc (max (max bad (e64 (IntKind.i64.wrap ((s:Int)+t)*x / (s:Int)))) (e64 (IntKind.i64.wrap ((s:Int)+t)*y / (t:Int)))))] [i,j]:=by
 have e1:IntKind.i64.wrap ((s:Int)+t)=(s:Int)+t:=je5 _ Q9R Q9R
 refine qak (G:=tys) [⟨i,_,gcR (s:Int),⟨false,0,[]⟩⟩,⟨j,_,gcR (t:Int),⟨false,0,[]⟩⟩,⟨k,_,gc bad,gc (max (max bad (e64 (IntKind.i64.wrap ((s:Int)+t)*x / (s:Int)))) (e64 (IntKind.i64.wrap ((s:Int)+t)*y / (t:Int))))⟩] [] [fnV 171,xc x,xc y,xd 0,xd 1,xd 2] tysOK mixed func223 Q9S (call223) ⟨hi,hj,hk,xb⟩ ⟨Q91,Q91,Q8L,xb⟩ Qbd xb Q9Q ?_
 repeat' (refine Ba ?_;first|refine Q5P ?_|refine Bb (qst (IntKind.i64.wrap ((s:Int)+t)) x s _ Q9R Q9R hx.1 hx.2 Q9R Q9R) ?_|refine Bb (qst (IntKind.i64.wrap ((s:Int)+t)) y t _ Q9R Q9R hy.1 hy.2 Q9R Q9R) ?_|with_reducible refine N.max3 ?_|refine Q6q ?_|refine Q6y ?_|exact Be|fail)
def puV(s t:Nat)(x y:Int):Int:=IntKind.i64.wrap (n64 (-(-(IntKind.i64.wrap ((s:Int)+t)*x) / (s:Int)))+n64 (-(-(IntKind.i64.wrap ((s:Int)+t)*y) / (t:Int))))
def plV(s t:Nat)(x y:Int):Int:=IntKind.i64.wrap (n64 (IntKind.i64.wrap ((s:Int)+t)*x / (s:Int))+n64 (IntKind.i64.wrap ((s:Int)+t)*y / (t:Int)))
def puE(s t:Nat)(x y bad:Int):Int:=max (max bad (e64 (-(-(IntKind.i64.wrap ((s:Int)+t)*x) / (s:Int))))) (e64 (-(-(IntKind.i64.wrap ((s:Int)+t)*y) / (t:Int))))
def plE(s t:Nat)(x y bad:Int):Int:=max (max bad (e64 (IntKind.i64.wrap ((s:Int)+t)*x / (s:Int)))) (e64 (IntKind.i64.wrap ((s:Int)+t)*y / (t:Int)))
variable{a:Int}
theorem jjt{cx cy b d:Int}(h:mayP cx cy a b d):0<usq (trP cx cy a b d).toNat/\usq (trP cx cy a b d).toNat<1073741824:=by
 have hm:=h;unfold mayP at hm;have e:trP cx cy a b d=a+d:=if_pos h;rw[e];have h1:=qzd (a+d).toNat;have h2:usq (a+d).toNat<=16777216:=qze Q9R;refine⟨?_,by omega⟩;rcases xU (usq (a+d).toNat) with h0|h0
 .rw[h0] at h1;omega
 .exact h0
theorem neF(h:a=0):(!(a==0))=false:=by subst h;rfl
theorem neT(h:¬ a=0):(!(a==0))=true:=by simpa using h
theorem ndF{P:Prop}[Decidable P](h:P):(!decide P)=false:=by rw[xg h];rfl
theorem ndT{P:Prop}[Decidable P](h:¬ P):(!decide P)=true:=by rw[xf h];rfl
theorem q8v(ex ey ea eb ed fx fy fa fb fd:Int)(he:mayP ex ey ea eb ed)(hf:mayP fx fy fa fb fd)(hb:plE (usq (trP ex ey ea eb ed).toNat) (usq (trP fx fy fa fb fd).toNat) eb fb (puE (usq (trP ex ey ea eb ed).toNat) (usq (trP fx fy fa fb fd).toNat) ed fd (puE (usq (trP ex ey ea eb ed).toNat) (usq (trP fx fy fa fb fd).toNat) ea fa 0))=0)(hm:mayP (IntKind.i64.wrap (ex+fx)) (IntKind.i64.wrap (ey+fy)) (IntKind.i64.wrap (puV (usq (trP ex ey ea eb ed).toNat) (usq (trP fx fy fa fb fd).toNat) ea fa+2)) (plV (usq (trP ex ey ea eb ed).toNat) (usq (trP fx fy fa fb fd).toNat) eb fb) (IntKind.i64.wrap (puV (usq (trP ex ey ea eb ed).toNat) (usq (trP fx fy fa fb fd).toNat) ed fd+2)))(w:World):xa 206 #[elV ex ey ea eb ed,elV fx fy fa fb fd] w (.tuple #[elV (IntKind.i64.wrap (ex+fx)) (IntKind.i64.wrap (ey+fy)) (IntKind.i64.wrap (puV (usq (trP ex ey ea eb ed).toNat) (usq (trP fx fy fa fb fd).toNat) ea fa+2)) (plV (usq (trP ex ey ea eb ed).toNat) (usq (trP fx fy fa fb fd).toNat) eb fb) (IntKind.i64.wrap (puV (usq (trP ex ey ea eb ed).toNat) (usq (trP fx fy fa fb fd).toNat) ed fd+2)),xc 0]):=by
 have hs:=jjt he;have ht:=jjt hf;have he2:=he;have hf2:=hf;unfold mayP at he2 hf2;refine qac (G:=tys) w tysOK mixed func206 Q9S Q9S Q9S ?_;repeat' (refine Ba ?_;first|refine Q5P ?_|refine Q6p ?_|refine Bf (ndF hm) ?_|fail)
 all_goals rfl
theorem q8w(ex ey ea eb ed fx fy fa fb fd:Int)(he:mayP ex ey ea eb ed)(hf:mayP fx fy fa fb fd)(hb:plE (usq (trP ex ey ea eb ed).toNat) (usq (trP fx fy fa fb fd).toNat) eb fb (puE (usq (trP ex ey ea eb ed).toNat) (usq (trP fx fy fa fb fd).toNat) ed fd (puE (usq (trP ex ey ea eb ed).toNat) (usq (trP fx fy fa fb fd).toNat) ea fa 0))=0)(hm:¬ mayP (IntKind.i64.wrap (ex+fx)) (IntKind.i64.wrap (ey+fy)) (IntKind.i64.wrap (puV (usq (trP ex ey ea eb ed).toNat) (usq (trP fx fy fa fb fd).toNat) ea fa+2)) (plV (usq (trP ex ey ea eb ed).toNat) (usq (trP fx fy fa fb fd).toNat) eb fb) (IntKind.i64.wrap (puV (usq (trP ex ey ea eb ed).toNat) (usq (trP fx fy fa fb fd).toNat) ed fd+2)))(w:World):xa 206 #[elV ex ey ea eb ed,elV fx fy fa fb fd] w (.tuple #[elV 0 0 0 0 0,xc 2]):=by
 have hs:=jjt he;have ht:=jjt hf;have he2:=he;have hf2:=hf;unfold mayP at he2 hf2;refine qac (G:=tys) w tysOK mixed func206 Q9S Q9S Q9S ?_;repeat' (refine Ba ?_;first|refine Q5P ?_|refine Q6p ?_|refine Bg (ndT hm) ?_|fail)
 all_goals rfl
theorem q31(x y a b d r:Int)(he:mayP x y a b d)(hr:r=0)(w:World):xa 188 #[elV x y a b d,xc r] w (.tuple #[elV x y a b d,xc 0]):=by
 refine qac (G:=tys) w tysOK mixed func188 Q9S Q9S Q9S ?_;repeat' (refine Ba ?_;first|refine Q5P ?_|refine Q6A ?_|refine Bf Qba ?_|refine Q6L ?_|refine Bg (by rw[hr];rfl) ?_|fail)
 all_goals rfl
theorem q32(x y a b d r:Int)(he:mayP x y a b d)(hr:0<r/\r<=4194304)(x' y' a' b' d' g:Int)(hS:∀h:Hp,qae prog 206 [elV x y a b d,elV 0 0 (r*r) 0 (r*r)] h (.tuple #[elV x' y' a' b' d',xc g]) [] [])(w:World):xa 188 #[elV x y a b d,xc r] w (.tuple #[elV x' y' a' b' d',xc g]):=by
 refine qac (G:=tys) w tysOK mixed func188 Q9S Q9S Q9S ?_;repeat' (refine Ba ?_;first|refine Q5P ?_|refine Q6A ?_|refine Bf Qba ?_|refine Q6L ?_|refine Bb (quq 0 0 r _ Q9V Q9R) ?_|refine Q66 ?_|refine Bb (hS _) ?_|fail)
 all_goals rfl
theorem quz{x y r:Int}(h:qa1 4194304 x y)(hr:0<r/\r<=4194304):mayP x y (r*r) 0 (r*r):=by
 have h1:1*1<=r*r:=yQ Q9R Q9R Q9R Q9R;have h2:r*r<=4194304*4194304:=yQ Q9R Q9R Q9R Q9R;have h3:1*1<=(r*r)*(r*r):=yQ Q9R Q9R Q9R Q9R;refine⟨h,by omega,by omega,by omega,by omega⟩
theorem q0c{x s c:Int}(hs:0<s)(h:x<=s*c):je1 x s<=c:=by
 unfold je1;have h1 : -c<=-x / s:=Int.le_ediv_of_mul_le hs (by rw[Int.neg_mul,Int.mul_comm];omega);omega
theorem q0d{x s:Int}(hs:0<s)(h:0<=x):0<=je1 x s:=by
 unfold je1;have h1 : -x / s<=0:=by
  have:=Int.ediv_le_ediv (a:=-x) (b:=0) hs Q9R;rwa[Int.zero_ediv] at this
 omega
theorem qu0{x s c:Int}(hs:0<s)(h1 : -(s*c)<=x)(h2:x<=s*c): -c<=x / s/\x / s<=c:=by
 constructor
 .exact Int.le_ediv_of_mul_le hs (by rw[Int.neg_mul,Int.mul_comm];exact h1)
 .have:=Int.ediv_le_ediv hs h2;rwa[Int.mul_ediv_cancel_left _ Q9R] at this
theorem qdq(h : -9223372036854775808<=z/\z<9223372036854775808):n64 z=z/\e64 z=0:=by
 obtain⟨h1,h2⟩:=qm2 h;exact⟨h2,by unfold e64;rw[h1];rfl⟩
theorem qlu(h:e.may):(usq (trP e.x e.y e.a e.b e.d).toNat:Nat)=e.rad/\(1<=(e.rad:Int)/\(e.rad:Int)<=16777216)/\e.a<=e.rad*e.rad/\e.d<=e.rad*e.rad/\-(e.rad*e.rad:Int)<=e.b/\e.b<=e.rad*e.rad:=by
 have hm:=h;unfold El.may mayP at hm;have ht:=show e.tr=e.a+e.d by unfold El.tr;rw[if_pos h]
 have h1:=qzd e.tr.toNat;have h2:usq e.tr.toNat<=16777216:=qze Q9R;have h3:((e.tr.toNat:Nat):Int)<=((usq e.tr.toNat*usq e.tr.toNat:Nat):Int):=by exact_mod_cast h1
 rw[yn] at h3;have h4:=q8t h;have hb : -(e.a+e.d)<=e.b/\e.b<=e.a+e.d:=by
  have h5:e.b*e.b<=(e.a+e.d)*(e.a+e.d):=by
   have e1:(e.a+e.d)*(e.a+e.d)=e.a*e.d+(e.a*e.d+e.a*e.a+e.d*e.d):=by grind
   have h6:=yi (show 0<=e.a by omega) (show 0<=e.d by omega);have h7:=jgz e.a;have h8:=jgz e.d;omega
  have:=qz9 (m:=e.a+e.d) Q9R h5;omega
 refine⟨rfl,⟨by omega,by unfold El.rad;omega⟩,?_⟩;unfold El.rad;omega
theorem qop{s t x:Int}(hs:1<=s/\s<=16777216)(ht:1<=t/\t<=16777216)(h1 : -(s*s)<=x)(h2:x<=s*s): -((s*((s+t)*s)))<=(s+t)*x/\(s+t)*x<=s*((s+t)*s)/\(s+t)*s<=562949953421312:=by
 have e:s*((s+t)*s)=(s+t)*(s*s):=by grind
 have a1:=zO h1 (by omega:0<=s+t);have a2:=zO h2 (by omega:0<=s+t);have e2:(s+t) * -(s*s) = -((s+t)*(s*s)):=by grind
 have a3:(s+t)*s<=33554432*16777216:=yQ Q9R hs.2 Q9R Q9R;refine⟨by omega,by omega,by omega⟩
theorem qwk{f:El}(he:e.may)(hf:f.may):
  puV e.rad f.rad e.a f.a=je1 (((e.rad:Int)+f.rad)*e.a) e.rad+je1 (((e.rad:Int)+f.rad)*f.a) f.rad/\puV e.rad f.rad e.d f.d=je1 (((e.rad:Int)+f.rad)*e.d) e.rad+je1 (((e.rad:Int)+f.rad)*f.d) f.rad/\
  plV e.rad f.rad e.b f.b=((e.rad:Int)+f.rad)*e.b / e.rad+((e.rad:Int)+f.rad)*f.b / f.rad/\
  plE e.rad f.rad e.b f.b (puE e.rad f.rad e.d f.d (puE e.rad f.rad e.a f.a 0))=0/\
  IntKind.i64.wrap (puV e.rad f.rad e.a f.a+2)=je1 (((e.rad:Int)+f.rad)*e.a) e.rad+je1 (((e.rad:Int)+f.rad)*f.a) f.rad+2/\IntKind.i64.wrap (puV e.rad f.rad e.d f.d+2)=je1 (((e.rad:Int)+f.rad)*e.d) e.rad+je1 (((e.rad:Int)+f.rad)*f.d) f.rad+2:=by
 obtain⟨_,hs,ea,ed,eb1,eb2⟩:=qlu he
 obtain⟨_,ht,fa,fd,fb1,fb2⟩:=qlu hf
 have hm:=he
 have hn:=hf
 unfold El.may mayP at hm hn
 generalize hS:(e.rad:Int)=s at *
 generalize hT:(f.rad:Int)=t at *
 have w1:IntKind.i64.wrap (s+t)=s+t:=je5 _ Q9R Q9R
 have up:∀x y:Int,1<=x->x<=s*s->1<=y->y<=t*t->(0<=je1 ((s+t)*x) s/\je1 ((s+t)*x) s<=562949953421312)/\(0<=je1 ((s+t)*y) t/\je1 ((s+t)*y) t<=562949953421312):=by
  intro x y x1 x2 y1 y2;have p:=qop hs ht (by have:=jgz s;omega : -(s*s)<=x) x2;have q:=qop ht hs (by have:=jgz t;omega : -(t*t)<=y) y2;rw[Int.add_comm t s] at q;have n1:=yi (by omega:0<=s+t) (by omega:0<=x);have n2:=yi (by omega:0<=s+t) (by omega:0<=y);exact⟨⟨q0d Q9R n1,Int.le_trans (q0c Q9R p.2.1) p.2.2⟩,⟨q0d Q9R n2,Int.le_trans (q0c Q9R q.2.1) q.2.2⟩⟩
 have fl:(-562949953421312<=(s+t)*e.b / s/\(s+t)*e.b / s<=562949953421312)/\(-562949953421312<=(s+t)*f.b / t/\(s+t)*f.b / t<=562949953421312):=by
  have p:=qop hs ht eb1 eb2;have q:=qop ht hs fb1 fb2;rw[Int.add_comm t s] at q;have p2:=qu0 (by omega:0<s) p.1 p.2.1;have q2:=qu0 (by omega:0<t) q.1 q.2.1;omega
 have hA:=up e.a f.a Q9R ea Q9R fa
 have hD:=up e.d f.d Q9R ed Q9R fd
 unfold puV plV plE puE
 rw[hS,hT,w1]
 have c:∀x k:Int,-(-x / k)=je1 x k:=λ_ _=>rfl
 simp only[c]
 have a1:=qdq (z:=je1 ((s+t)*e.a) s) Q9R
 have a2:=qdq (z:=je1 ((s+t)*f.a) t) Q9R
 have d1:=qdq (z:=je1 ((s+t)*e.d) s) Q9R
 have d2:=qdq (z:=je1 ((s+t)*f.d) t) Q9R
 have b1:=qdq (z:=(s+t)*e.b / s) Q9R
 have b2:=qdq (z:=(s+t)*f.b / t) Q9R
 rw[a1.1,a1.2,a2.1,a2.2,d1.1,d1.2,d2.1,d2.2,b1.1,b1.2,b2.1,b2.2]
 have wa:IntKind.i64.wrap (je1 ((s+t)*e.a) s+je1 ((s+t)*f.a) t)=je1 ((s+t)*e.a) s+je1 ((s+t)*f.a) t:=je5 _ Q9R Q9R
 have wd:IntKind.i64.wrap (je1 ((s+t)*e.d) s+je1 ((s+t)*f.d) t)=je1 ((s+t)*e.d) s+je1 ((s+t)*f.d) t:=je5 _ Q9R Q9R
 have wb:IntKind.i64.wrap ((s+t)*e.b / s+(s+t)*f.b / t)=(s+t)*e.b / s+(s+t)*f.b / t:=je5 _ Q9R Q9R
 rw[wa,wd,wb]
 exact⟨rfl,rfl,rfl,by decide,je5 _ Q9R Q9R,je5 _ Q9R Q9R⟩
abbrev elE(e:El):Value:=elV e.x e.y e.a e.b e.d
theorem jcq(e f:El)(h:Hp)(he:e.may)(hf:f.may):qae prog 206 [elE e,elE f] h (.tuple #[elE (jie e f).1,xc (jie e f).2]) [] []:=by
 obtain⟨p1,p2,p3,p4,p5,p6⟩:=qwk he hf;have hm:=he;have hn:=hf;unfold El.may mayP qa1 at hm hn;have r1:usq (trP e.x e.y e.a e.b e.d).toNat=e.rad:=(qlu he).1;have r2:usq (trP f.x f.y f.a f.b f.d).toNat=f.rad:=(qlu hf).1;have wx:IntKind.i64.wrap (e.x+f.x)=e.x+f.x:=je5 _ Q9R Q9R;have wy:IntKind.i64.wrap (e.y+f.y)=e.y+f.y:=je5 _ Q9R Q9R;have hiff:(jlv e f).may↔mayP (IntKind.i64.wrap (e.x+f.x)) (IntKind.i64.wrap (e.y+f.y)) (IntKind.i64.wrap (puV e.rad f.rad e.a f.a+2)) (plV e.rad f.rad e.b f.b) (IntKind.i64.wrap (puV e.rad f.rad e.d f.d+2)):=by
  rw[wx,wy,p5,p6,p3];exact Iff.rfl
 unfold jie;rw[if_pos ⟨he,hf⟩];by_cases hmm:(jlv e f).may
 .rw[if_pos hmm];have hx:=hiff.1 hmm;have:=q8v e.x e.y e.a e.b e.d f.x f.y f.a f.b f.d he hf (by rw[r1,r2];exact p4) (by rw[r1,r2];exact hx);rw[r1,r2,wx,wy,p5,p6,p3] at this;exact qai rfl rfl (call206 _) this
 .rw[if_neg hmm];have hx:=λh=>hmm (hiff.2 h)
  exact qai rfl rfl (call206 _) (q8w e.x e.y e.a e.b e.d f.x f.y f.a f.b f.d he hf (by rw[r1,r2];exact p4) (by rw[r1,r2];exact hx))
theorem q0e(e:El)(r:Int)(h:Hp)(he:e.may)(hr:0<=r/\r<=4194304):qae prog 188 [elE e,xc r] h (.tuple #[elE (qfv e r).1,xc (qfv e r).2]) [] []:=by
 unfold qfv;rw[if_pos ⟨he,hr⟩];by_cases h0:r=0
 .rw[if_pos h0];exact qai rfl rfl (call188 _) (q31 e.x e.y e.a e.b e.d r he h0)
 .rw[if_neg h0];have hb:(jff 0 0 r).may:=(show mayP 0 0 (r*r) 0 (r*r) from quz Q9V Q9R);exact qai rfl rfl (call188 _) (q32 e.x e.y e.a e.b e.d r he Q9R _ _ _ _ _ _ λh=>jcq e (jff 0 0 r) h he hb)
open Go Go.RowKit Sx
variable{ix:List (Nat×Nat)}{w:Bool}{m:Nat}
theorem wz_re(z:Int):((⟨false,18,[(0,18,wz z)]⟩:Chunk).own=true->(⟨w,18,[(0,18,wz z)]⟩:Chunk).own=true/\m<=(⟨w,18,[(0,18,wz z)]⟩:Chunk).n)/\(⟨false,18,[(0,18,wz z)]⟩:Chunk).n<=(⟨w,18,[(0,18,wz z)]⟩:Chunk).n/\qbg ix ⟨w,18,[(0,18,wz z)]⟩ ⟨false,18,[(0,18,wz z)]⟩:=wi_re _ _ _
theorem qwl(x p y q:Int):qap (.agg ⟨wiL (decide (x<0)) false x.natAbs++(wiL (decide (p<0)) false p.natAbs++(wiL (decide (y<0)) false y.natAbs++(wiL (decide (q<0)) false q.natAbs)))⟩)=true:=by
 have a:=qad x;have b:=qad p;have c:=qad y;have d:=qad q;simp only[qap,wz] at a b c d ⊢;simp only[List.all_append,a,b,c,d,zg]
theorem jju(x p y q:Int)(i:Nat)(o:Bool)(h:Hp)(hx:x.natAbs<Bs^16)(hp:p.natAbs<Bs^16)(hy:y.natAbs<Bs^16)(hq:q.natAbs<Bs^16)(h1:(x*p).natAbs<Top)(h2:(y*q).natAbs<Top)(h3:(x*p+y*q).natAbs<Top)
  (hi:h[i]?=some (some ⟨o,72,[(0,72,.agg ⟨wiL (decide (x<0)) false x.natAbs++(wiL (decide (p<0)) false p.natAbs++(wiL (decide (y<0)) false y.natAbs++(wiL (decide (q<0)) false q.natAbs)))⟩)]⟩)) :
  qae prog 211 [.slice (some ⟨i,0,some 0⟩) 4 4] h (wz (x*p+y*q)) [] [i]:=by
 have h0:(0+x*p).natAbs<Top:=by rwa[Int.zero_add]
 have hz:(0:Int).natAbs<Top:=zt Q9V
 have e0:x*p+y*q=0+x*p+y*q:=by rw[Int.zero_add]
 rw[e0] at h3 ⊢
 refine qak (G:=tys) [⟨i,_,⟨false,72,[(0,72,.agg ⟨wiL (decide (x<0)) false x.natAbs++(wiL (decide (p<0)) false p.natAbs++(wiL (decide (y<0)) false y.natAbs++(wiL (decide (q<0)) false q.natAbs)))⟩)]⟩,⟨false,0,[]⟩⟩] [] [.slice (some ⟨0,0,some 0⟩) 4 4] tysOK mixed func211 Q9S (call211) ⟨hi,xb⟩ ⟨qim (qaz (by simp[qh6]) (qwl _ _ _ _)),xb⟩ Q9X xb ⟨.slice rfl,xb⟩ ?_
 repeat' (first|(refine Ba ?_;first|refine Q5P ?_)|refine qah Q9S ?_)
 refine Ba ?_
 refine Bp 3 ?_
 repeat' (first|(refine Ba ?_;first|refine Q5P ?_|refine Q71 ?_|refine Q6f ?_|refine Q6c ?_|refine Q66 ?_|refine Bb (cMulz x p _ hx hp h1) ?_|refine Bb (cMulz y q _ hy hq h2) ?_|refine Bb (jhl 0 (x*p) _ hz h1 h0) ?_|refine Bb (jhl (0+x*p) (y*q) _ h0 h2 h3) ?_|refine Q7z ?_|exact Be|fail)|refine qah Q9S ?_)
theorem jif(x y p q:Int)(i j:Nat)(w1 w2:Bool)(h:Hp)(hx:x.natAbs<Bs^16)(hp:p.natAbs<Bs^16)(hy:y.natAbs<Bs^16)(hq:q.natAbs<Bs^16)(h1:(x*p).natAbs<Top)(h2:(y*q).natAbs<Top)(h3:(x*p+y*q).natAbs<Top)
  (hi:h[i]?=some (some ⟨w1,18,[(0,18,wz p)]⟩)) (hj:h[j]?=some (some ⟨w2,18,[(0,18,wz q)]⟩)) (hne:i≠j) :
  qae prog 225 [wz x,wz y,xd i,xd j] h (wz (x*p+y*q)) [] [i,j]:=by
 refine qak (G:=tys) [⟨i,_,⟨false,18,[(0,18,wz p)]⟩,⟨false,0,[]⟩⟩,⟨j,_,⟨false,18,[(0,18,wz q)]⟩,⟨false,0,[]⟩⟩] [] [wz x,wz y,xd 0,xd 1] tysOK mixed func225 Q9S (call225) ⟨hi,hj,xb⟩ ⟨wz_re _,wz_re _,xb⟩ Qbd xb ⟨.plain (qad _),.plain (qad _),.ptr rfl,.ptr rfl,xb⟩ ?_
 repeat' (first|(refine Ba ?_;first|refine Q5P ?_|refine Bb (jju x p y q 5 _ _ hx hp hy hq h1 h2 h3 Q9S) ?_|refine Q7z ?_|exact Be|fail)|refine qah Q9S ?_)
def pw(k:Nat):Nat:=2^k
variable{n:Nat}
theorem joz(h:m<=n):pw m<=pw n:=yc Q9V h
theorem q6b(m n:Nat):pw (m+n)=pw m*pw n:=yf ..
def Bd(z:Int)(k:Nat):Prop:=z.natAbs<=pw k
theorem Bd.le(h:Bd z m)(hn:m<=n):Bd z n:=xH h (joz hn)
theorem Bd.mul{b:Int}(ha:Bd a m)(hb:Bd b n):Bd (a*b) (m+n):=by
 unfold Bd at *;rw[y5,q6b];exact yz ha hb
theorem Bd.add{b:Int}(k:Nat)(ha:Bd a m)(hb:Bd b n)(hm:m<=k:=by decide)(hn:n<=k:=by decide):Bd (a+b) (k+1):=by
 have h1:=ha.le hm;have h2:=hb.le hn;unfold Bd at *;rw[q6b,show pw 1=2 from rfl];omega
theorem Bd.neg(ha:Bd a m):Bd (-a) m:=by unfold Bd at *;rwa[yP]
theorem Bd.sub{b:Int}(k:Nat)(ha:Bd a m)(hb:Bd b n)(hm:m<=k:=by decide)(hn:n<=k:=by decide):Bd (a-b) (k+1):=by
 rw[Int.sub_eq_add_neg];exact Bd.add k ha hb.neg hm hn
theorem Bd.top{k:Nat}(h:Bd z k)(hk:k<=1022:=by decide):z.natAbs<Top:=xQ h (yV Q9V (show k<1023 by omega))
theorem Bd.b16{k:Nat}(h:Bd z k)(hk:k<=1022:=by decide):z.natAbs<Bs^16:=xE (h.top hk) qbr
theorem Bd.of{k:Nat}(h:z.natAbs<=n)(hk:n<=pw k:=by decide):Bd z k:=xH h hk
structure Inf.bd(i:Inf)(a u z:Nat):Prop where
 A:Bd i.A a
 B:Bd i.B a
 D:Bd i.D a
 U:Bd i.U u
 V:Bd i.V u
 Z:Bd i.Z z
 Den:Bd i.Den z
theorem Inf.bd.le{i:Inf}{a u z a' u' z':Nat}(h:i.bd a u z)(h1:a<=a':=by decide)(h2:u<=u':=by decide)(h3:z<=z':=by decide):i.bd a' u' z':=⟨h.A.le h1,h.B.le h1,h.D.le h1,h.U.le h2,h.V.le h2,h.Z.le h3,h.Den.le h3⟩
abbrev jo0(i:Inf):List Value:=wiL (decide (i.A<0)) false i.A.natAbs++(wiL (decide (i.B<0)) false i.B.natAbs++(wiL (decide (i.D<0)) false i.D.natAbs++(wiL (decide (i.U<0)) false i.U.natAbs++(wiL (decide (i.V<0)) false i.V.natAbs++(wiL (decide (i.Z<0)) false i.Z.natAbs++wiL (decide (i.Den<0)) false i.Den.natAbs)))))
abbrev jgl(i:Inf):Value:=.agg ⟨jo0 i⟩
theorem qbd(i:Inf):qap (jgl i)=true:=by
 have a:=qad i.A;have b:=qad i.B;have c:=qad i.D;have d:=qad i.U;have e:=qad i.V;have f:=qad i.Z;have g:=qad i.Den;simp only[qap,wz] at a b c d e f g ⊢;simp only[jo0,List.all_append,a,b,c,d,e,f,g,zg]
theorem qcp(i:Inf):flatB (jgl i) 126=true:=by
 have a:=qab (decide (i.A<0)) false i.A.natAbs;have b:=qab (decide (i.B<0)) false i.B.natAbs;have c:=qab (decide (i.D<0)) false i.D.natAbs;have d:=qab (decide (i.U<0)) false i.U.natAbs;have e:=qab (decide (i.V<0)) false i.V.natAbs;have f:=qab (decide (i.Z<0)) false i.Z.natAbs;have g:=qab (decide (i.Den<0)) false i.Den.natAbs;simp only[flatB,xo] at a b c d e f g ⊢;simp only[jo0,List.all_append,xv,qh6,a,b,c,d,e,f,g,zg];exact⟨rfl,xb⟩
theorem jmk(z w:Int)(h:Hp)(e:w=z)(h0 : -9223372036854775808<=z)(h1:z<9223372036854775808):qae prog 98 [xc w] h (wz z) [] []:=by subst e;exact cOfz w h h0 h1
theorem jqp{w:Int}(hw:0<=w/\w<=34):Bd w 6/\Bd (34-w) 6:=⟨Bd.of (n:=64) Q9R,Bd.of (n:=64) Q9R⟩
theorem jcr{i j:Inf}{w:Int}(hw:0<=w/\w<=34)(hi:i.bd 51 78 105)(hj:j.bd 51 78 105):(jja i j w).bd 163 190 217:=by
 obtain⟨w1,w2⟩:=jqp hw;have p:=w1.mul hj.Den;have q:=w2.mul hi.Den;have m:Bd (34:Int) 6:=Bd.of (n:=64) Q9V;exact⟨Bd.add 162 (hi.A.mul p) (hj.A.mul q),Bd.add 162 (hi.B.mul p) (hj.B.mul q),Bd.add 162 (hi.D.mul p) (hj.D.mul q),Bd.add 189 (hi.U.mul p) (hj.U.mul q),Bd.add 189 (hi.V.mul p) (hj.V.mul q),Bd.add 216 (hi.Z.mul p) (hj.Z.mul q),(m.mul (hi.Den.mul hj.Den)).le Q9V⟩
theorem jo1(i j:Inf)(w:Int)(hw:0<=w/\w<=34)(hi:i.bd 51 78 105)(hj:j.bd 51 78 105)(W:World):xa 212 #[jgl i,jgl j,xc w] W (.tuple #[jgl (jja i j w),xc 0]):=by
 obtain⟨w1,w2⟩:=jqp hw;have p:=w1.mul hj.Den;have q:=w2.mul hi.Den;have m:Bd (34:Int) 6:=Bd.of (n:=64) Q9V;have dd:=hi.Den.mul hj.Den;have w34:IntKind.i64.wrap (34-w)=34-w:=je5 _ Q9R Q9R;refine qac (G:=tys) W tysOK mixed func212 Q9S (by simp[qbd];rfl) QaJ ?_
 repeat' (first|(refine Ba ?_;first|refine Q5P ?_|refine Bc (qcp _) ?_|refine Q60 ?_|refine Bb (cOfz w _ Q9R Q9R) ?_|refine Bb (cMulz w j.Den _ w1.b16 hj.Den.b16 p.top) ?_|refine Bb (jmk (34-w) _ _ w34 Q9R Q9R) ?_|refine Bb (cMulz (34-w) i.Den _ w2.b16 hi.Den.b16 q.top) ?_|refine Bb (cOfz 34 _ Q9V Q9V) ?_|refine Bb (cMulz i.Den j.Den _ hi.Den.b16 hj.Den.b16 dd.top) ?_|refine Bb (cMulz 34 (i.Den*j.Den) _ m.b16 dd.b16 (m.mul dd).top) ?_|refine Bb (jif i.A j.A (w*j.Den) ((34-w)*i.Den) 11 20 _ _ _ hi.A.b16 p.b16 hj.A.b16 q.b16 (hi.A.mul p).top (hj.A.mul q).top (Bd.add 216 (hi.A.mul p) (hj.A.mul q)).top Q9S Q9S Q9V) ?_|refine Bb (jif i.B j.B (w*j.Den) ((34-w)*i.Den) 11 20 _ _ _ hi.B.b16 p.b16 hj.B.b16 q.b16 (hi.B.mul p).top (hj.B.mul q).top (Bd.add 216 (hi.B.mul p) (hj.B.mul q)).top Q9S Q9S Q9V) ?_|refine Bb (jif i.D j.D (w*j.Den) ((34-w)*i.Den) 11 20 _ _ _ hi.D.b16 p.b16 hj.D.b16 q.b16 (hi.D.mul p).top (hj.D.mul q).top (Bd.add 216 (hi.D.mul p) (hj.D.mul q)).top Q9S Q9S Q9V) ?_|refine Bb (jif i.U j.U (w*j.Den) ((34-w)*i.Den) 11 20 _ _ _ hi.U.b16 p.b16 hj.U.b16 q.b16 (hi.U.mul p).top (hj.U.mul q).top (Bd.add 216 (hi.U.mul p) (hj.U.mul q)).top Q9S Q9S Q9V) ?_|refine Bb (jif i.V j.V (w*j.Den) ((34-w)*i.Den) 11 20 _ _ _ hi.V.b16 p.b16 hj.V.b16 q.b16 (hi.V.mul p).top (hj.V.mul q).top (Bd.add 216 (hi.V.mul p) (hj.V.mul q)).top Q9S Q9S Q9V) ?_|refine Bb (jif i.Z j.Z (w*j.Den) ((34-w)*i.Den) 11 20 _ _ _ hi.Z.b16 p.b16 hj.Z.b16 q.b16 (hi.Z.mul p).top (hj.Z.mul q).top (Bd.add 216 (hi.Z.mul p) (hj.Z.mul q)).top Q9S Q9S Q9V) ?_)|refine qah Q9S ?_)
 all_goals rfl
theorem jrk(i j:Inf)(w:Int)(h:Hp)(hw:0<=w/\w<=34)(hi:i.bd 51 78 105)(hj:j.bd 51 78 105):qae prog 212 [jgl i,jgl j,xc w] h (.tuple #[jgl (jja i j w),xc 0]) [] []:=
 qai (by simp[qbd];rfl) QaJ (call212 _) (jo1 i j w hw hi hj)
theorem jo2(a b d:Int)(hm:jgt a b d)(W:World):xa 209 #[.agg #[xc a,xc b,xc d]] W (.agg #[xc d,xc (-b),xc a]):=by
 have hm2:=hm;unfold jgt at hm2;have hb:IntKind.i64.wrap (0-b) = -b:=by rw[je5 _ Q9R Q9R];omega
 refine qac (G:=tys) W tysOK mixed func209 Q9S Q9S Q9S ?_;repeat' (first|(refine Ba ?_;first|refine Q5P ?_|refine Bb (jol _ _ _ _) ?_|refine Bf (ndF hm) ?_)|refine qah Q9S ?_)
 all_goals rw[hb]
theorem jrl(a b d:Int)(h:Hp)(hm:jgt a b d):qae prog 209 [.agg #[xc a,xc b,xc d]] h (.agg #[xc d,xc (-b),xc a]) [] []:=
 qai rfl rfl (call209 _) (jo2 a b d hm)
theorem qu1(h:e.may):e.inf.bd 51 78 105:=by
 have hm:=h;unfold El.may mayP qa1 at hm;have a:Bd e.a 46:=Bd.of (n:=70368744177664) Q9R;have b:Bd e.b 46:=Bd.of (n:=70368744177664) Q9R;have d:Bd e.d 46:=Bd.of (n:=70368744177664) Q9R;have x:Bd e.x 22:=Bd.of (n:=4194304) Q9R;have y:Bd e.y 22:=Bd.of (n:=4194304) Q9R;refine⟨d.le Q9V,b.neg.le Q9V,a.le Q9V,(Bd.add 77 (d.mul x) (b.neg.mul y)),(Bd.add 77 (b.neg.mul x) (a.mul y)),?_,?_⟩
 .show Bd (jf9 e.d (-e.b) e.a e.x e.y) 105;unfold jf9;exact Bd.add 104 (Bd.add 103 (d.mul (x.mul x)) (a.mul (y.mul y))) (Bd.add 103 (b.neg.mul (x.mul y)) (b.neg.mul (x.mul y)))
 .exact Bd.sub 104 (a.mul d) (b.mul b)
theorem jrm(e:El)(he:e.may)(W:World):xa 191 #[elE e] W (.tuple #[jgl e.inf,xc 0]):=by
 have hm:=he;unfold El.may mayP qa1 at hm;have bd:=qu1 he;have a:Bd e.a 46:=Bd.of (n:=70368744177664) Q9R;have b:Bd (-e.b) 46:=Bd.of (n:=70368744177664) Q9R;have d:Bd e.d 46:=Bd.of (n:=70368744177664) Q9R;have x:Bd e.x 22:=Bd.of (n:=4194304) Q9R;have y:Bd e.y 22:=Bd.of (n:=4194304) Q9R;refine qac (G:=tys) W tysOK mixed func191 Q9S Q9S QaJ ?_
 repeat' (first|(refine Ba ?_;first|refine Q5P ?_|refine Q6A ?_|refine Bf (ndF he) ?_|refine Bb (jrl e.a e.b e.d _ (by unfold jgt;omega)) ?_|refine Bb (cOfz (e.x) _ Q9R Q9R) ?_|refine Bb (cOfz (e.y) _ Q9R Q9R) ?_|refine Bb (cOfz (e.d) _ Q9R Q9R) ?_|refine Bb (cOfz (-e.b) _ Q9R Q9R) ?_|refine Bb (cOfz (e.a) _ Q9R Q9R) ?_|refine Bb (jmi e.d (-e.b) e.a e.x e.y _ Q9R Q9R Q9R Q9R Q9R) ?_|refine Bb (jqm e.a e.b e.d _ Q9R Q9R Q9R) ?_|refine Bb (jju e.d e.x (-e.b) e.y 38 _ _ d.b16 x.b16 b.b16 y.b16 (d.mul x).top (b.mul y).top bd.U.top Q9S) ?_|refine Bb (jju (-e.b) e.x e.a e.y 43 _ _ b.b16 x.b16 a.b16 y.b16 (b.mul x).top (a.mul y).top bd.V.top Q9S) ?_)|refine qah Q9S ?_)
 all_goals rfl
theorem jo3(e:El)(h:Hp)(he:e.may):qae prog 191 [elE e] h (.tuple #[jgl e.inf,xc 0]) [] []:=
 qai rfl QaJ (call191 _) (jrm e he)
theorem jcs(x y:Operand)(a b c d:Int):BinIs prog .neq 23 x y (.agg #[xc a,xc b]) (.agg #[xc c,xc d]) (.bool !(a==c&&b==d)):=
 Q9B
theorem qu2(x y:Operand)(a b c d:Int):BinIs prog .eql 23 x y (.agg #[xc a,xc b]) (.agg #[xc c,xc d]) (.bool (a==c&&b==d)):=
 Q9B
abbrev stV(s:Strip):Value:=.agg #[xc s.ox,xc s.oy,xc s.hx,xc s.hy,xc s.lo,xc s.hi]
theorem q0f(x y m:Int)(hm:0<=m/\m<=1152921504606846976)(w:World):xa 241 #[.agg #[xc x,xc y],xc m] w (.bool (decide (qa1 m x y))):=by
 have hw:=je5 (0-m) Q9R Q9R;refine qac (G:=tys) w tysOK mixed func241 Q9S Q9S Q9S ?_;repeat' (refine Ba ?_;first|refine Q5P ?_|with_reducible refine Bj (λhb=>?_) (λhb=>?_)|fail)
 all_goals
  refine jf7 ?_
  try rw[hw] at *
  simp only[xh,xm,xG,false_iff,true_iff,iff_true,iff_false,reduceCtorEq,yj,xI,yk,xZ] at *
  try try rw[hw] at *
  simp only[qa1] at *
  omega
theorem q33(x y m:Int)(h:Hp)(hm:0<=m/\m<=1152921504606846976):qae prog 241 [.agg #[xc x,xc y],xc m] h (.bool (decide (qa1 m x y))) [] []:=
 qai rfl rfl (call241 _) (q0f x y m hm)
theorem qwm(s:Strip)(w:World):xa 219 #[stV s] w (.bool (decide s.may)):=by
 refine qac (G:=tys) w tysOK mixed func219 Q9S Q9S Q9S ?_;repeat' (refine Ba ?_;first|refine Q5P ?_|refine Bb (qgt _ _ _) ?_|refine Bb (q33 _ _ _ _ Q9V) ?_|refine Bu _ (jcs _ _ _ _ _ _) ?_|with_reducible refine Bj (λhb=>?_) (λhb=>?_)|fail)
 all_goals
  refine jf7 ?_
  unfold Strip.may
  simp only[xh,xm,xG,false_iff,true_iff,iff_true,iff_false,reduceCtorEq,yj,xI,yk,xZ,zr,Bool.and_eq_false_imp,yv,beq_eq_false_iff_ne,zN,xo,ne_eq] at *
  simp only[qa1] at *
  omega
theorem qlv(s:Strip)(h:Hp):qae prog 219 [stV s] h (.bool (decide s.may)) [] []:=
 qai rfl rfl (call219 _) (qwm s)
theorem q34{s:Strip}(h:s.may):s.inf.bd 51 78 105:=by
 unfold Strip.may qa1 at h;have hx:Bd (2*s.hx) 25:=Bd.of (n:=33554432) Q9R;have hy:Bd (2*s.hy) 25:=Bd.of (n:=33554432) Q9R;have ox:Bd s.ox 22:=Bd.of (n:=4194304) Q9R;have oy:Bd s.oy 22:=Bd.of (n:=4194304) Q9R;have lh:Bd (s.lo+s.hi) 51:=Bd.of (n:=2251799813685248) Q9R;have ap:Bd (s.hi-s.lo) 51:=Bd.of (n:=2251799813685248) Q9R;have m:Bd (s.lo+s.hi+2*s.hx*s.ox+2*s.hy*s.oy) 52:=by
  have h1:=hx.mul ox;have h2:=hy.mul oy;have e1:pw (25+22)=140737488355328:=rfl;unfold Bd at h1 h2;rw[e1] at h1 h2;refine Bd.of (n:=4503599627370496) ?_;omega
 exact⟨(hx.mul hx).le Q9V,(hx.mul hy).le Q9V,(hy.mul hy).le Q9V,(m.mul hx).le Q9V,(m.mul hy).le Q9V,(m.mul m).le Q9V,(ap.mul ap).le Q9V⟩
theorem q0g(s:Strip)(hs:s.may)(W:World):xa 242 #[stV s] W (.tuple #[jgl s.inf,xc 0]):=by
 have h:=hs;unfold Strip.may qa1 at h;have hx:Bd (2*s.hx) 25:=Bd.of (n:=33554432) Q9R;have hy:Bd (2*s.hy) 25:=Bd.of (n:=33554432) Q9R;have ox:Bd s.ox 22:=Bd.of (n:=4194304) Q9R;have oy:Bd s.oy 22:=Bd.of (n:=4194304) Q9R;have ap:Bd (s.hi-s.lo) 51:=Bd.of (n:=2251799813685248) Q9R;have h1:=hx.mul ox;have h2:=hy.mul oy;have e1:pw (25+22)=140737488355328:=rfl;unfold Bd at h1 h2;rw[e1] at h1 h2;have mm:(s.lo+s.hi+2*s.hx*s.ox+2*s.hy*s.oy).natAbs<=4503599627370496:=by omega
 have m:Bd (s.lo+s.hi+2*s.hx*s.ox+2*s.hy*s.oy) 52:=Bd.of mm;have w1:IntKind.i64.wrap (2*s.hx)=2*s.hx:=je5 _ Q9R Q9R;have w2:IntKind.i64.wrap (2*s.hy)=2*s.hy:=je5 _ Q9R Q9R;have w3:IntKind.i64.wrap (IntKind.i64.wrap (IntKind.i64.wrap (s.lo+s.hi)+IntKind.i64.wrap (IntKind.i64.wrap (2*s.hx)*s.ox))+IntKind.i64.wrap (IntKind.i64.wrap (2*s.hy)*s.oy))=s.lo+s.hi+2*s.hx*s.ox+2*s.hy*s.oy:=by
  rw[w1,w2,je5 (s.lo+s.hi) Q9R Q9R,je5 (2*s.hx*s.ox) Q9R Q9R,je5 (2*s.hy*s.oy) Q9R Q9R,je5 (s.lo+s.hi+2*s.hx*s.ox) Q9R Q9R,je5 _ Q9R Q9R]
 have w4:IntKind.i64.wrap (s.hi-s.lo)=s.hi-s.lo:=je5 _ Q9R Q9R;refine qac (G:=tys) W tysOK mixed func242 Q9S Q9S QaJ ?_
 repeat' (first|(refine Ba ?_;first|refine Q5P ?_|refine Bb (qlv s _) ?_|refine Bf (ndF hs) ?_|refine Bb (jmk (2*s.hx) _ _ w1 Q9R Q9R) ?_|refine Bb (jmk (2*s.hy) _ _ w2 Q9R Q9R) ?_|refine Bb (jmk (s.lo+s.hi+2*s.hx*s.ox+2*s.hy*s.oy) _ _ w3 Q9R Q9R) ?_|refine Bb (jmk (s.hi-s.lo) _ _ w4 Q9R Q9R) ?_|refine Bb (cMulz (2*s.hx) (2*s.hx) _ hx.b16 hx.b16 (hx.mul hx).top) ?_|refine Bb (cMulz (2*s.hx) (2*s.hy) _ hx.b16 hy.b16 (hx.mul hy).top) ?_|refine Bb (cMulz (2*s.hy) (2*s.hy) _ hy.b16 hy.b16 (hy.mul hy).top) ?_|refine Bb (cMulz (s.lo+s.hi+2*s.hx*s.ox+2*s.hy*s.oy) (2*s.hx) _ m.b16 hx.b16 (m.mul hx).top) ?_|refine Bb (cMulz (s.lo+s.hi+2*s.hx*s.ox+2*s.hy*s.oy) (2*s.hy) _ m.b16 hy.b16 (m.mul hy).top) ?_|refine Bb (cMulz (s.lo+s.hi+2*s.hx*s.ox+2*s.hy*s.oy) (s.lo+s.hi+2*s.hx*s.ox+2*s.hy*s.oy) _ m.b16 m.b16 (m.mul m).top) ?_|refine Bb (cMulz (s.hi-s.lo) (s.hi-s.lo) _ ap.b16 ap.b16 (ap.mul ap).top) ?_)|refine qah Q9S ?_)
 all_goals rfl
theorem q35(s:Strip)(h:Hp)(hs:s.may):qae prog 242 [stV s] h (.tuple #[jgl s.inf,xc 0]) [] []:=
 qai rfl QaJ (call242 _) (q0g s hs)
theorem q8x(i:Inf)(D:Int)(hi:i.bd 163 190 217)(hD:Bd D 327)(W:World):xa 226 #[jgl i,wz D] W (wz ((i.Den-i.Z)*D+((i.D*(i.U*i.U)+i.A*(i.V*i.V)) + -(2*(i.B*(i.U*i.V)))))):=by
 have a:=hi.A;have b:=hi.B;have d:=hi.D;have u:=hi.U;have v:=hi.V;have two:Bd (2:Int) 1:=Bd.of (n:=2) Q9V;have uu:=u.mul u;have vv:=v.mul v;have uv:=u.mul v;have buv:=b.mul uv;have b2:=two.mul buv;have duu:=d.mul uu;have avv:=a.mul vv;have sq:=Bd.add 543 duu avv;have dz:=Bd.sub 217 hi.Den hi.Z;have dzd:=dz.mul hD;have sb:=Bd.add 544 sq b2.neg;have lv:=Bd.add 545 dzd sb;refine qac (G:=tys) W tysOK mixed func226 Q9S (by simp[qbd,qad]) (qaj _) ?_
 repeat' (first|(refine Ba ?_;first|refine Q5P ?_|refine Bc (qcp _) ?_|refine Bb (cMulz (i.U) (i.U) _ u.b16 u.b16 (u.mul u).top) ?_|refine Bb (cMulz (i.V) (i.V) _ v.b16 v.b16 (v.mul v).top) ?_|refine Bb (cMulz (i.U) (i.V) _ u.b16 v.b16 (u.mul v).top) ?_|refine Bb (cMulz (i.B) (i.U*i.V) _ b.b16 uv.b16 (b.mul uv).top) ?_|refine Bb (cMulz (2) (i.B*(i.U*i.V)) _ two.b16 buv.b16 (two.mul buv).top) ?_|refine Bb (cMulz (i.Den-i.Z) (D) _ dz.b16 hD.b16 (dz.mul hD).top) ?_|refine Bb (cOfz 2 _ Q9V Q9V) ?_|refine Bb (jju i.D (i.U*i.U) i.A (i.V*i.V) 11 _ _ d.b16 uu.b16 a.b16 vv.b16 duu.top avv.top sq.top Q9S) ?_|refine Bb (jic i.Den i.Z _ hi.Den.top hi.Z.top dz.top) ?_|refine Bb (jmh (2*(i.B*(i.U*i.V))) _ b2.top) ?_|refine Bb (jhl (i.D*(i.U*i.U)+i.A*(i.V*i.V)) (-(2*(i.B*(i.U*i.V)))) _ sq.top b2.neg.top sb.top) ?_|refine Bb (jhl ((i.Den-i.Z)*D) (i.D*(i.U*i.U)+i.A*(i.V*i.V) + -(2*(i.B*(i.U*i.V)))) _ dzd.top sb.top lv.top) ?_)|refine qah Q9S ?_)
 all_goals rfl
theorem qj5(i:Inf)(D:Int)(h:Hp)(hi:i.bd 163 190 217)(hD:Bd D 327):qae prog 226 [jgl i,wz D] h (wz ((i.Den-i.Z)*D+((i.D*(i.U*i.U)+i.A*(i.V*i.V)) + -(2*(i.B*(i.U*i.V)))))) [] []:=
 qai (by simp[qbd,qad]) (qaj _) (call226 _) (q8x i D hi hD)
theorem qwn(z0 z1 z2 z3 z4 z5 z6:Int):qap (.agg ⟨wiL (decide (z0<0)) false (z0).natAbs++(wiL (decide (z1<0)) false (z1).natAbs++(wiL (decide (z2<0)) false (z2).natAbs++(wiL (decide (z3<0)) false (z3).natAbs++(wiL (decide (z4<0)) false (z4).natAbs++(wiL (decide (z5<0)) false (z5).natAbs++(wiL (decide (z6<0)) false (z6).natAbs))))))⟩)=true:=by
 have a0:=qad z0;have a1:=qad z1;have a2:=qad z2;have a3:=qad z3;have a4:=qad z4;have a5:=qad z5;have a6:=qad z6;simp only[qap,wz] at a0 a1 a2 a3 a4 a5 a6 ⊢;simp only[List.all_append,a0,a1,a2,a3,a4,a5,a6,zg]
theorem jct(z0 z1 z2 z3 z4 z5 z6:Int)(i:Nat)(o:Bool)(h:Hp)(hi:h[i]?=some (some ⟨o,126,[(0,126,.agg ⟨wiL (decide (z0<0)) false (z0).natAbs++(wiL (decide (z1<0)) false (z1).natAbs++(wiL (decide (z2<0)) false (z2).natAbs++(wiL (decide (z3<0)) false (z3).natAbs++(wiL (decide (z4<0)) false (z4).natAbs++(wiL (decide (z5<0)) false (z5).natAbs++(wiL (decide (z6<0)) false (z6).natAbs))))))⟩)]⟩)):
  qae prog 228 [.slice (some ⟨i,0,some 0⟩) 7 7] h (.bool false) [] [i]:=by
 refine qak (G:=tys) [⟨i,_,⟨false,126,[(0,126,.agg ⟨wiL (decide (z0<0)) false (z0).natAbs++(wiL (decide (z1<0)) false (z1).natAbs++(wiL (decide (z2<0)) false (z2).natAbs++(wiL (decide (z3<0)) false (z3).natAbs++(wiL (decide (z4<0)) false (z4).natAbs++(wiL (decide (z5<0)) false (z5).natAbs++(wiL (decide (z6<0)) false (z6).natAbs))))))⟩)]⟩,⟨false,0,[]⟩⟩] [] [.slice (some ⟨0,0,some 0⟩) 7 7] tysOK mixed func228 Q9S (call228) ⟨hi,xb⟩ ⟨qim (qaz (by simp[qh6]) (qwn _ _ _ _ _ _ _)),xb⟩ Q9X xb ⟨.slice rfl,xb⟩ ?_
 repeat' (first|(refine Ba ?_;first|refine Q5P ?_)|refine qah Q9S ?_)
 refine Ba ?_
 refine Bp 8 ?_
 repeat' (first|(refine Ba ?_;first|refine Q5P ?_|refine Q71 ?_|refine Q6f ?_|refine Q7I ?_|refine Q6c ?_|refine Q66 ?_|refine Q7k ?_|refine Q6o ?_|refine Bc xb ?_|exact Be|fail)|refine qah Q9S ?_)
theorem qwo(z0 z1 z2 z3 z4 z5 z6 z7:Int):qap (.agg ⟨wiL (decide (z0<0)) false (z0).natAbs++(wiL (decide (z1<0)) false (z1).natAbs++(wiL (decide (z2<0)) false (z2).natAbs++(wiL (decide (z3<0)) false (z3).natAbs++(wiL (decide (z4<0)) false (z4).natAbs++(wiL (decide (z5<0)) false (z5).natAbs++(wiL (decide (z6<0)) false (z6).natAbs++(wiL (decide (z7<0)) false (z7).natAbs)))))))⟩)=true:=by
 have a0:=qad z0;have a1:=qad z1;have a2:=qad z2;have a3:=qad z3;have a4:=qad z4;have a5:=qad z5;have a6:=qad z6;have a7:=qad z7;simp only[qap,wz] at a0 a1 a2 a3 a4 a5 a6 a7 ⊢;simp only[List.all_append,a0,a1,a2,a3,a4,a5,a6,a7,zg]
theorem qj6(z0 z1 z2 z3 z4 z5 z6 z7:Int)(i:Nat)(o:Bool)(h:Hp)(hi:h[i]?=some (some ⟨o,144,[(0,144,.agg ⟨wiL (decide (z0<0)) false (z0).natAbs++(wiL (decide (z1<0)) false (z1).natAbs++(wiL (decide (z2<0)) false (z2).natAbs++(wiL (decide (z3<0)) false (z3).natAbs++(wiL (decide (z4<0)) false (z4).natAbs++(wiL (decide (z5<0)) false (z5).natAbs++(wiL (decide (z6<0)) false (z6).natAbs++(wiL (decide (z7<0)) false (z7).natAbs)))))))⟩)]⟩)):
  qae prog 228 [.slice (some ⟨i,0,some 0⟩) 8 8] h (.bool false) [] [i]:=by
 refine qak (G:=tys) [⟨i,_,⟨false,144,[(0,144,.agg ⟨wiL (decide (z0<0)) false (z0).natAbs++(wiL (decide (z1<0)) false (z1).natAbs++(wiL (decide (z2<0)) false (z2).natAbs++(wiL (decide (z3<0)) false (z3).natAbs++(wiL (decide (z4<0)) false (z4).natAbs++(wiL (decide (z5<0)) false (z5).natAbs++(wiL (decide (z6<0)) false (z6).natAbs++(wiL (decide (z7<0)) false (z7).natAbs)))))))⟩)]⟩,⟨false,0,[]⟩⟩] [] [.slice (some ⟨0,0,some 0⟩) 8 8] tysOK mixed func228 Q9S (call228) ⟨hi,xb⟩ ⟨qim (qaz (by simp[qh6]) (qwo _ _ _ _ _ _ _ _)),xb⟩ Q9X xb ⟨.slice rfl,xb⟩ ?_
 repeat' (first|(refine Ba ?_;first|refine Q5P ?_)|refine qah Q9S ?_)
 refine Ba ?_
 refine Bp 9 ?_
 repeat' (first|(refine Ba ?_;first|refine Q5P ?_|refine Q71 ?_|refine Q6f ?_|refine Q7I ?_|refine Bi 7 0 Q9V Q9V ?_|refine Q6c ?_|refine Q66 ?_|refine Q7k ?_|refine Bb (qeg z7 _) ?_|refine Q6o ?_|refine Bc xb ?_|exact Be|fail)|refine qah Q9S ?_)
theorem jo4(i:Inf)(W:World):xa 227 #[jgl i] W (.bool false):=by
 refine qac (G:=tys) W tysOK mixed func227 Q9S (by simp[qbd]) rfl ?_;repeat' (first|(refine Ba ?_;first|refine Q5P ?_|refine Bc (qcp _) ?_|refine Bb (jct i.A i.B i.D i.U i.V i.Z i.Den 1 _ _ Q9S) ?_)|refine qah Q9S ?_)
 all_goals rfl
theorem jrn(i:Inf)(h:Hp):qae prog 227 [jgl i] h (.bool false) [] []:=
 qai (by simp[qbd]) rfl (call227 _) (jo4 i)
open Go Go.RowKit Sx
theorem jni(a b bad z e:Int)(k:Nat)(h:Hp)(ha:a.natAbs<Top)(ha2:(a+a).natAbs<Top)(ha3:(a+a+b).natAbs<Top)(hb0:0<b)(hbb:b.natAbs<Top)(hb2:(b+b).natAbs<Top)(hz:n64 (je6 a b)=z)(he:max bad (e64 (je6 a b))=e)(hk:h[k]?=some (some (gc bad))):
  qae prog 229 [fnV 230,wz a,wz b,xd k] h (xc z) [(k,gc e)] []:=by
 subst hz he
 refine qak (G:=tys) [⟨k,_,gc bad,gc (max bad (e64 (je6 a b)))⟩] [] [fnV 230,wz a,wz b,xd 0] tysOK mixed func229 Q9S (call229) ⟨hk,xb⟩ ⟨Q8L,xb⟩ Q9X xb Q9a ?_
 repeat' (first|(refine Ba ?_;first|refine Q5P ?_|refine Bb (jcp a b _ ha ha2 ha3 hb0 hbb hb2) ?_|refine Q6X ?_|refine Q6q ?_|refine Q6y ?_|exact Be|fail)|refine qah Q9S ?_)
theorem jnj(a b bad z e:Int)(k:Nat)(h:Hp)(ha:a.natAbs<Top)(hb0:0<b)(hbb:b.natAbs<Top)(hz:n64 (je1 a b)=z)(he:max bad (e64 (je1 a b))=e)(hk:h[k]?=some (some (gc bad))):
  qae prog 229 [fnV 231,wz a,wz b,xd k] h (xc z) [(k,gc e)] []:=by
 subst hz he
 refine qak (G:=tys) [⟨k,_,gc bad,gc (max bad (e64 (je1 a b)))⟩] [] [fnV 231,wz a,wz b,xd 0] tysOK mixed func229 Q9S (call229) ⟨hk,xb⟩ ⟨Q8L,xb⟩ Q9X xb Q9a ?_
 repeat' (first|(refine Ba ?_;first|refine Q5P ?_|refine Bb (jco a b _ ha hb0 hbb) ?_|refine Q6X ?_|refine Q6q ?_|refine Q6y ?_|exact Be|fail)|refine qah Q9S ?_)
theorem jqq(a b bad z e:Int)(k:Nat)(h:Hp)(ha:a.natAbs<Top)(hb0:0<b)(hbb:b.natAbs<Top)(hz:n64 (a / b)=z)(he:max bad (e64 (a / b))=e)(hk:h[k]?=some (some (gc bad))):
  qae prog 229 [fnV 232,wz a,wz b,xd k] h (xc z) [(k,gc e)] []:=by
 subst hz he
 refine qak (G:=tys) [⟨k,_,gc bad,gc (max bad (e64 (a / b)))⟩] [] [fnV 232,wz a,wz b,xd 0] tysOK mixed func229 Q9S (call229) ⟨hk,xb⟩ ⟨Q8L,xb⟩ Q9X xb Q9a ?_
 repeat' (first|(refine Ba ?_;first|refine Q5P ?_|refine Bb (qz8 a b _ ha hb0 hbb) ?_|refine Q6X ?_|refine Q6q ?_|refine Q6y ?_|exact Be|fail)|refine qah Q9S ?_)
theorem q8y(e:El)(r a d:Int)(h:Hp)(ha:a=e.a)(hd:d=e.d)(he:e.may)(hr:0<=r/\r<=4194304):qae prog 188 [elV e.x e.y a e.b d,xc r] h (.tuple #[elE (qfv e r).1,xc (qfv e r).2]) [] []:=by
 subst ha hd;exact q0e e r h he hr
theorem qjs(z:Int):sgn z<0↔z<0:=by unfold sgn;split<;>(try split)<;>omega
theorem qi6(z:Int):sgn z<=0↔z<=0:=by unfold sgn;split<;>(try split)<;>omega
theorem jcu(i:Inf)(hi:i.bd 163 190 217)(h:i.A<=0\/i.d<=0)(W:World):xa 213 #[jgl i] W (.tuple #[elE El.o,xc 1]):=by
 have hB:=hi;have bA:=hi.A;have bB:=hi.B;have bD:=hi.D;have bU:=hi.U;have bV:=hi.V;have ad:=bA.mul bD;have bb:=bB.mul bB;have dB:Bd (i.A*i.D-i.B*i.B) 327:=Bd.sub 326 ad bb;have du:=bD.mul bU;have bv:=bB.mul bV;have xB:Bd (i.D*i.U-i.B*i.V) 354:=Bd.sub 353 du bv;have av:=bA.mul bV;have bu:=bB.mul bU;have yB:Bd (i.A*i.V-i.B*i.U) 354:=Bd.sub 353 av bu;have lB:Bd ((i.Den-i.Z)*(i.A*i.D-i.B*i.B)+((i.D*(i.U*i.U)+i.A*(i.V*i.V)) + -(2*(i.B*(i.U*i.V))))) 546:=Q1L;have eD:i.A*i.D-i.B*i.B=i.d:=rfl;have eX:i.D*i.U-i.B*i.V=i.x:=rfl;have eY:i.A*i.V-i.B*i.U=i.y:=rfl;have eL:(i.Den-i.Z)*i.d+((i.D*(i.U*i.U)+i.A*(i.V*i.V)) + -(2*(i.B*(i.U*i.V))))=i.level:=rfl;rw[eD] at dB lB;rw[eX] at xB;rw[eY] at yB;rw[eL] at lB;have sB:=dB.mul dB;have pB:=lB.mul bD;have qB:=lB.mul bA;have rB:=lB.mul bB;have x2:=Bd.add 354 xB xB;have x3:=Bd.add 355 x2 dB;have y2:=Bd.add 354 yB yB;have y3:=Bd.add 355 y2 dB
 have d2:=Bd.add 327 dB dB;refine Q2u ?_;by_cases hA:i.A<=0
 .repeat' (first|(refine Ba ?_;first|refine Q5P ?_|refine Q5X ?_|refine Bg (by rw[xh,qi6];exact hA) ?_)|refine qah Q9S ?_)
  all_goals rfl
 .have hd:i.d<=0:=by omega
  repeat' (first|(refine Ba ?_;first|refine Q5P ?_|refine Q5X ?_|refine Bf (by rw[xm,qi6];exact hA) ?_|refine Bg (by rw[xh,qi6];exact hd) ?_)|refine qah Q9S ?_)
  all_goals rfl
theorem jcv(i:Inf)(hi:i.bd 163 190 217)(hA:0<i.A)(hd:0<i.d)(hl:i.level<0)(W:World):xa 213 #[jgl i] W (.tuple #[elE El.o,xc 3]):=by
 have hB:=hi;have bA:=hi.A;have bB:=hi.B;have bD:=hi.D;have bU:=hi.U;have bV:=hi.V;have ad:=bA.mul bD;have bb:=bB.mul bB;have dB:Bd (i.A*i.D-i.B*i.B) 327:=Bd.sub 326 ad bb;have du:=bD.mul bU;have bv:=bB.mul bV;have xB:Bd (i.D*i.U-i.B*i.V) 354:=Bd.sub 353 du bv;have av:=bA.mul bV;have bu:=bB.mul bU;have yB:Bd (i.A*i.V-i.B*i.U) 354:=Bd.sub 353 av bu;have lB:Bd ((i.Den-i.Z)*(i.A*i.D-i.B*i.B)+((i.D*(i.U*i.U)+i.A*(i.V*i.V)) + -(2*(i.B*(i.U*i.V))))) 546:=Q1L;have eD:i.A*i.D-i.B*i.B=i.d:=rfl;have eX:i.D*i.U-i.B*i.V=i.x:=rfl;have eY:i.A*i.V-i.B*i.U=i.y:=rfl;have eL:(i.Den-i.Z)*i.d+((i.D*(i.U*i.U)+i.A*(i.V*i.V)) + -(2*(i.B*(i.U*i.V))))=i.level:=rfl;rw[eD] at dB lB;rw[eX] at xB;rw[eY] at yB;rw[eL] at lB;have sB:=dB.mul dB;have pB:=lB.mul bD;have qB:=lB.mul bA;have rB:=lB.mul bB;have x2:=Bd.add 354 xB xB;have x3:=Bd.add 355 x2 dB;have y2:=Bd.add 354 yB yB;have y3:=Bd.add 355 y2 dB
 have d2:=Bd.add 327 dB dB;refine Q2u ?_;repeat' (first|(refine Ba ?_;first|refine Q5P ?_|refine Q5X ?_|refine Bf QaR ?_|refine Bg (by rw[xh,qjs];exact hl) ?_)|refine qah Q9S ?_)
 all_goals rfl
theorem jcw(i:Inf)(hi:i.bd 163 190 217)(hA:0<i.A)(hd:0<i.d)(hl:¬ i.level<0)(hm:i.mid.may)(W:World):xa 213 #[jgl i] W (.tuple #[elE (qfv i.mid 1).1,xc (qfv i.mid 1).2]):=by
 have hB:=hi;have bA:=hi.A;have bB:=hi.B;have bD:=hi.D;have bU:=hi.U;have bV:=hi.V;have ad:=bA.mul bD;have bb:=bB.mul bB;have dB:Bd (i.A*i.D-i.B*i.B) 327:=Bd.sub 326 ad bb;have du:=bD.mul bU;have bv:=bB.mul bV;have xB:Bd (i.D*i.U-i.B*i.V) 354:=Bd.sub 353 du bv;have av:=bA.mul bV;have bu:=bB.mul bU;have yB:Bd (i.A*i.V-i.B*i.U) 354:=Bd.sub 353 av bu;have lB:Bd ((i.Den-i.Z)*(i.A*i.D-i.B*i.B)+((i.D*(i.U*i.U)+i.A*(i.V*i.V)) + -(2*(i.B*(i.U*i.V))))) 546:=Q1L;have eD:i.A*i.D-i.B*i.B=i.d:=rfl;have eX:i.D*i.U-i.B*i.V=i.x:=rfl;have eY:i.A*i.V-i.B*i.U=i.y:=rfl;have eL:(i.Den-i.Z)*i.d+((i.D*(i.U*i.U)+i.A*(i.V*i.V)) + -(2*(i.B*(i.U*i.V))))=i.level:=rfl;rw[eD] at dB lB;rw[eX] at xB;rw[eY] at yB;rw[eL] at lB;have sB:=dB.mul dB;have pB:=lB.mul bD;have qB:=lB.mul bA;have rB:=lB.mul bB;have x2:=Bd.add 354 xB xB;have x3:=Bd.add 355 x2 dB;have y2:=Bd.add 354 yB yB;have y3:=Bd.add 355 y2 dB
 have d2:=Bd.add 327 dB dB;have sP:0<i.d*i.d:=Int.mul_pos hd hd;have hmm:=hm;unfold El.may mayP qa1 Inf.mid at hmm;simp only[] at hmm;have r1 : -9223372036854775808<=(je6 i.x i.d)/\(je6 i.x i.d)<9223372036854775808:=by omega
 have r2 : -9223372036854775808<=(je6 i.y i.d)/\(je6 i.y i.d)<9223372036854775808:=by omega
 have r3 : -9223372036854775808<=(je1 (i.level*i.D) (i.d*i.d))/\(je1 (i.level*i.D) (i.d*i.d))<9223372036854775808:=by omega
 have r4 : -9223372036854775808<=(je1 (i.level*i.A) (i.d*i.d))/\(je1 (i.level*i.A) (i.d*i.d))<9223372036854775808:=by omega
 have r5 : -9223372036854775808<=(-(i.level*i.B) / (i.d*i.d))/\(-(i.level*i.B) / (i.d*i.d))<9223372036854775808:=by omega
 have c1:=qdq r1;have c2:=qdq r2;have c3:=qdq r3;have c4:=qdq r4;have c5:=qdq r5;have z1:=c1.1;have b1:max 0 (e64 (je6 i.x i.d))=0:=by rw[c1.2];rfl
 have z2:=c2.1;have b2:max 0 (e64 (je6 i.y i.d))=0:=by rw[c2.2];rfl
 have z3:=c3.1;have b3:max 0 (e64 (je1 (i.level*i.D) (i.d*i.d)))=0:=by rw[c3.2];rfl
 have z4:=c4.1;have b4:max 0 (e64 (je1 (i.level*i.A) (i.d*i.d)))=0:=by rw[c4.2];rfl
 have z5:=c5.1;have b5:max 0 (e64 (-(i.level*i.B) / (i.d*i.d)))=0:=by rw[c5.2];rfl
 have wp:IntKind.i64.wrap (je1 (i.level*i.D) (i.d*i.d)+1)=je1 (i.level*i.D) (i.d*i.d)+1:=je5 _ Q9R Q9R;have wq:IntKind.i64.wrap (je1 (i.level*i.A) (i.d*i.d)+1)=je1 (i.level*i.A) (i.d*i.d)+1:=je5 _ Q9R Q9R;refine Q2u ?_;repeat' (first|(refine Ba ?_;first|refine Q5P ?_|refine Q5X ?_|refine Q62 ?_|refine Q60 ?_|refine Q6A ?_|refine Bf (by rw[wp,wq];exact ndF hm) ?_|refine Bb (q8y i.mid 1 _ _ _ wp wq hm Q9V) ?_)|refine qah Q9S ?_)
 all_goals rfl
theorem jiz(z:Int):((-9223372036854775808<=z/\z<9223372036854775808)/\e64 z=0)\/(¬ (-9223372036854775808<=z/\z<9223372036854775808))/\e64 z=2:=by
 by_cases h : -9223372036854775808<=z/\z<9223372036854775808
 .exact .inl ⟨h,(qdq h).2⟩
 .right;refine⟨h,?_⟩;have:=(qzc h).1;unfold e64;rw[this];rfl
theorem jcx(i:Inf)(hi:i.bd 163 190 217)(hA:0<i.A)(hd:0<i.d)(hl:¬ i.level<0)(hm:¬ i.mid.may)(W:World):xa 213 #[jgl i] W (.tuple #[elE El.o,xc 2]):=by
 have hB:=hi;have bA:=hi.A;have bB:=hi.B;have bD:=hi.D;have bU:=hi.U;have bV:=hi.V;have ad:=bA.mul bD;have bb:=bB.mul bB;have dB:Bd (i.A*i.D-i.B*i.B) 327:=Bd.sub 326 ad bb;have du:=bD.mul bU;have bv:=bB.mul bV;have xB:Bd (i.D*i.U-i.B*i.V) 354:=Bd.sub 353 du bv;have av:=bA.mul bV;have bu:=bB.mul bU;have yB:Bd (i.A*i.V-i.B*i.U) 354:=Bd.sub 353 av bu;have lB:Bd ((i.Den-i.Z)*(i.A*i.D-i.B*i.B)+((i.D*(i.U*i.U)+i.A*(i.V*i.V)) + -(2*(i.B*(i.U*i.V))))) 546:=Q1L;have eD:i.A*i.D-i.B*i.B=i.d:=rfl;have eX:i.D*i.U-i.B*i.V=i.x:=rfl;have eY:i.A*i.V-i.B*i.U=i.y:=rfl;have eL:(i.Den-i.Z)*i.d+((i.D*(i.U*i.U)+i.A*(i.V*i.V)) + -(2*(i.B*(i.U*i.V))))=i.level:=rfl;rw[eD] at dB lB;rw[eX] at xB;rw[eY] at yB;rw[eL] at lB;have sB:=dB.mul dB;have pB:=lB.mul bD;have qB:=lB.mul bA;have rB:=lB.mul bB;have x2:=Bd.add 354 xB xB;have x3:=Bd.add 355 x2 dB;have y2:=Bd.add 354 yB yB;have y3:=Bd.add 355 y2 dB
 have d2:=Bd.add 327 dB dB;have sP:0<i.d*i.d:=Int.mul_pos hd hd;by_cases hbad:max (max (max (max (max 0 (e64 (je6 i.x i.d))) (e64 (je6 i.y i.d))) (e64 (je1 (i.level*i.D) (i.d*i.d)))) (e64 (je1 (i.level*i.A) (i.d*i.d)))) (e64 (-(i.level*i.B) / (i.d*i.d)))=0
 .have k1:=jiz (je6 i.x i.d);have k2:=jiz (je6 i.y i.d);have k3:=jiz (je1 (i.level*i.D) (i.d*i.d));have k4:=jiz (je1 (i.level*i.A) (i.d*i.d));have k5:=jiz (-(i.level*i.B) / (i.d*i.d));have r1 : -9223372036854775808<=(je6 i.x i.d)/\(je6 i.x i.d)<9223372036854775808:=by omega
  have r2 : -9223372036854775808<=(je6 i.y i.d)/\(je6 i.y i.d)<9223372036854775808:=by omega
  have r3 : -9223372036854775808<=(je1 (i.level*i.D) (i.d*i.d))/\(je1 (i.level*i.D) (i.d*i.d))<9223372036854775808:=by omega
  have r4 : -9223372036854775808<=(je1 (i.level*i.A) (i.d*i.d))/\(je1 (i.level*i.A) (i.d*i.d))<9223372036854775808:=by omega
  have r5 : -9223372036854775808<=(-(i.level*i.B) / (i.d*i.d))/\(-(i.level*i.B) / (i.d*i.d))<9223372036854775808:=by omega
  have c1:=qdq r1;have c2:=qdq r2;have c3:=qdq r3;have c4:=qdq r4;have c5:=qdq r5;have z1:=c1.1;have b1:max 0 (e64 (je6 i.x i.d))=0:=by rw[c1.2];rfl
  have z2:=c2.1;have b2:max 0 (e64 (je6 i.y i.d))=0:=by rw[c2.2];rfl
  have z3:=c3.1;have b3:max 0 (e64 (je1 (i.level*i.D) (i.d*i.d)))=0:=by rw[c3.2];rfl
  have z4:=c4.1;have b4:max 0 (e64 (je1 (i.level*i.A) (i.d*i.d)))=0:=by rw[c4.2];rfl
  have z5:=c5.1;have b5:max 0 (e64 (-(i.level*i.B) / (i.d*i.d)))=0:=by rw[c5.2];rfl
  by_cases hp:70368744177664<=je1 (i.level*i.D) (i.d*i.d)
  .refine Q2u ?_;repeat' (first|(refine Ba ?_;first|refine Q5P ?_|refine Q5X ?_|refine Q62 ?_|refine Bg (by rw[xh];exact hp) ?_)|refine qah Q9S ?_)
   all_goals rfl
  by_cases hq:70368744177664<=je1 (i.level*i.A) (i.d*i.d)
  .refine Q2u ?_;repeat' (first|(refine Ba ?_;first|refine Q5P ?_|refine Q5X ?_|refine Q62 ?_|refine Bf (by rw[xm];exact hp) ?_|refine Bg (by rw[xh];exact hq) ?_)|refine qah Q9S ?_)
   all_goals rfl
  .have wp:IntKind.i64.wrap (je1 (i.level*i.D) (i.d*i.d)+1)=je1 (i.level*i.D) (i.d*i.d)+1:=je5 _ Q9R Q9R;have wq:IntKind.i64.wrap (je1 (i.level*i.A) (i.d*i.d)+1)=je1 (i.level*i.A) (i.d*i.d)+1:=je5 _ Q9R Q9R;refine Q2u ?_;repeat' (first|(refine Ba ?_;first|refine Q5P ?_|refine Q5X ?_|refine Q62 ?_|refine Q60 ?_|refine Q6A ?_|refine Bg (by rw[wp,wq];exact ndT hm) ?_)|refine qah Q9S ?_)
   all_goals rfl
 .have z1:=rfl (a:=n64 (je6 i.x i.d));have z2:=rfl (a:=n64 (je6 i.y i.d));have z3:=rfl (a:=n64 (je1 (i.level*i.D) (i.d*i.d)));have z4:=rfl (a:=n64 (je1 (i.level*i.A) (i.d*i.d)));have z5:=rfl (a:=n64 (-(i.level*i.B) / (i.d*i.d)));have b1:=rfl (a:=(max 0 (e64 (je6 i.x i.d))));have b2:=rfl (a:=(max (max 0 (e64 (je6 i.x i.d))) (e64 (je6 i.y i.d))));have b3:=rfl (a:=(max (max (max 0 (e64 (je6 i.x i.d))) (e64 (je6 i.y i.d))) (e64 (je1 (i.level*i.D) (i.d*i.d)))));have b4:=rfl (a:=(max (max (max (max 0 (e64 (je6 i.x i.d))) (e64 (je6 i.y i.d))) (e64 (je1 (i.level*i.D) (i.d*i.d)))) (e64 (je1 (i.level*i.A) (i.d*i.d)))));have b5:=rfl (a:=(max (max (max (max (max 0 (e64 (je6 i.x i.d))) (e64 (je6 i.y i.d))) (e64 (je1 (i.level*i.D) (i.d*i.d)))) (e64 (je1 (i.level*i.A) (i.d*i.d)))) (e64 (-(i.level*i.B) / (i.d*i.d)))));refine Q2u ?_
  repeat' (first|(refine Ba ?_;first|refine Q5P ?_|refine Q5X ?_|refine Bf QaR ?_|refine Bf (by rw[xm,qjs];omega) ?_|refine Bb (jni i.x i.d 0 (n64 (je6 i.x i.d)) (max 0 (e64 (je6 i.x i.d))) 75 _ xB.top x2.top x3.top hd dB.top d2.top z1 b1 Q9S) ?_|refine Bb (jni i.y i.d (max 0 (e64 (je6 i.x i.d))) (n64 (je6 i.y i.d)) (max (max 0 (e64 (je6 i.x i.d))) (e64 (je6 i.y i.d))) 75 _ yB.top y2.top y3.top hd dB.top d2.top z2 b2 Q9S) ?_|refine Bb (jnj (i.level*i.D) (i.d*i.d) (max (max 0 (e64 (je6 i.x i.d))) (e64 (je6 i.y i.d))) (n64 (je1 (i.level*i.D) (i.d*i.d))) (max (max (max 0 (e64 (je6 i.x i.d))) (e64 (je6 i.y i.d))) (e64 (je1 (i.level*i.D) (i.d*i.d)))) 75 _ pB.top sP sB.top z3 b3 Q9S) ?_|refine Bb (jnj (i.level*i.A) (i.d*i.d) (max (max (max 0 (e64 (je6 i.x i.d))) (e64 (je6 i.y i.d))) (e64 (je1 (i.level*i.D) (i.d*i.d)))) (n64 (je1 (i.level*i.A) (i.d*i.d))) (max (max (max (max 0 (e64 (je6 i.x i.d))) (e64 (je6 i.y i.d))) (e64 (je1 (i.level*i.D) (i.d*i.d)))) (e64 (je1 (i.level*i.A) (i.d*i.d)))) 75 _ qB.top sP sB.top z4 b4 Q9S) ?_|refine Bb (jqq (-(i.level*i.B)) (i.d*i.d) (max (max (max (max 0 (e64 (je6 i.x i.d))) (e64 (je6 i.y i.d))) (e64 (je1 (i.level*i.D) (i.d*i.d)))) (e64 (je1 (i.level*i.A) (i.d*i.d)))) (n64 (-(i.level*i.B) / (i.d*i.d))) (max (max (max (max (max 0 (e64 (je6 i.x i.d))) (e64 (je6 i.y i.d))) (e64 (je1 (i.level*i.D) (i.d*i.d)))) (e64 (je1 (i.level*i.A) (i.d*i.d)))) (e64 (-(i.level*i.B) / (i.d*i.d)))) 75 _ rB.neg.top sP sB.top z5 b5 Q9S) ?_|refine Bg (neT hbad) ?_)|refine qah Q9S ?_)
  all_goals rfl
theorem jro(i:Inf)(h:Hp)(hi:i.bd 163 190 217):qae prog 213 [jgl i] h (.tuple #[elE (jiy i).1,xc (jiy i).2]) [] []:=by
 refine qai (by simp[qbd]) rfl (call213 _) λW=>?_
 unfold jiy;by_cases h1:i.A<=0\/i.d<=0
 .rw[if_pos h1];exact jcu i hi h1 W
 rw[if_neg h1];by_cases h2:i.level<0
 .rw[if_pos h2];exact jcv i hi Q9R Q9R h2 W
 rw[if_neg h2];by_cases h3:i.mid.may
 .rw[if_pos h3];exact jcw i hi Q9R Q9R h2 h3 W
 .rw[if_neg h3];exact jcx i hi Q9R Q9R h2 h3 W
theorem q8z(i j:Inf)(w:Int)(hw:0<=w/\w<=34)(hi:i.bd 51 78 105)(hj:j.bd 51 78 105)(W:World):xa 192 #[jgl i,jgl j,xc w,xc 0] W (.tuple #[elE (jiy (jja i j w)).1,xc (jiy (jja i j w)).2]):=by
 have mb:=jcr hw hi hj;refine qac (G:=tys) W tysOK mixed func192 Q9S (by simp[qbd];exact⟨rfl,rfl⟩) Q9S ?_;repeat' (first|(refine Ba ?_;first|refine Q5P ?_|refine Bc (qcp _) ?_|refine Bb (jrk i j w _ hw hi hj) ?_|refine Q66 ?_|refine Bb (jro (jja i j w) _ mb) ?_)|refine qah Q9S ?_)
 all_goals rfl
theorem q6c(i j:Inf)(w:Int)(h:Hp)(hw:0<=w/\w<=34)(hi:i.bd 51 78 105)(hj:j.bd 51 78 105):qae prog 192 [jgl i,jgl j,xc w,xc 0] h (.tuple #[elE (jiy (jja i j w)).1,xc (jiy (jja i j w)).2]) [] []:=
 qai (by simp[qbd];exact⟨rfl,rfl⟩) rfl (call192 _) (q8z i j w hw hi hj)
theorem q80(e f:El)(w:Int)(hw:0<=w/\w<=34)(he:e.may)(hf:f.may)(W:World):xa 167 #[elE e,elE f,xc w] W (.tuple #[elE (jez e f w).1,xc (jez e f w).2]):=by
 unfold jez;rw[if_pos hw];refine qac (G:=tys) W tysOK mixed func167 Q9S Q9S Q9S ?_;repeat' (first|(refine Ba ?_;first|refine Q5P ?_|refine Bc (qcp _) ?_|refine Bb (jo3 e _ he) ?_|refine Bb (jo3 f _ hf) ?_|refine Q6X ?_|refine Bb (q6c e.inf f.inf w _ hw (qu1 he) (qu1 hf)) ?_)|refine qah Q9S ?_)
 all_goals rfl
theorem jcy(e f:El)(w:Int)(h:Hp)(hw:0<=w/\w<=34)(he:e.may)(hf:f.may):qae prog 167 [elE e,elE f,xc w] h (.tuple #[elE (jez e f w).1,xc (jez e f w).2]) [] []:=
 qai rfl rfl (call167 _) (q80 e f w hw he hf)
theorem jcz(e:El)(s:Strip)(w:Int)(hw:0<=w/\w<=34)(he:e.may)(hs:s.may)(W:World):xa 221 #[elE e,stV s,xc w] W (.tuple #[elE (je0 e s w).1,xc (je0 e s w).2]):=by
 unfold je0;rw[if_pos hw];refine qac (G:=tys) W tysOK mixed func221 Q9S Q9S Q9S ?_;repeat' (first|(refine Ba ?_;first|refine Q5P ?_|refine Bc (qcp _) ?_|refine Bb (jo3 e _ he) ?_|refine Bb (q35 s _ hs) ?_|refine Q6X ?_|refine Bb (q6c e.inf s.inf w _ hw (qu1 he) (q34 hs)) ?_)|refine qah Q9S ?_)
 all_goals rfl
theorem jo5(e:El)(s:Strip)(w:Int)(h:Hp)(hw:0<=w/\w<=34)(he:e.may)(hs:s.may):qae prog 221 [elE e,stV s,xc w] h (.tuple #[elE (je0 e s w).1,xc (je0 e s w).2]) [] []:=
 qai rfl rfl (call221 _) (jcz e s w hw he hs)
def qlw(e:El)(x y:Int):Int:=(usq (jf9 e.a e.b e.d x y).toNat:Nat)
def jhr(lo hi:Int):Prop:=0<=lo/\lo<=hi/\hi<=4194304
instance(lo hi:Int):Decidable (jhr lo hi):=by unfold jhr;infer_instance
def ji0(h w k m:Int):Int:=if 0<h-w then (if 0<h*m*m-k*k then max (h-w) (isq (h*m*m-k*k).toNat:Nat) else h-w) else h-w
def jhv(h w far:Int):Int:=min (h+w) (usq (h*far*far).toNat:Nat)
def jfv(e n:El)(lo hi:Int):Strip:=
 ⟨n.x,n.y,e.x-n.x,e.y-n.y,ji0 ((e.x-n.x)*(e.x-n.x)+(e.y-n.y)*(e.y-n.y)) (qlw e (e.x-n.x) (e.y-n.y)) (qlw e (-(e.y-n.y)) (e.x-n.x)) (max 0 (lo-n.rad)),jhv ((e.x-n.x)*(e.x-n.x)+(e.y-n.y)*(e.y-n.y)) (qlw e (e.x-n.x) (e.y-n.y)) (hi+n.rad)⟩
def jfh(e n:El)(lo hi:Int):Strip×Int:=
 if ¬ (e.may/\n.may/\jhr lo hi) then (⟨0,0,0,0,0,0⟩,1)
 else if e.x-n.x=0/\e.y-n.y=0 then (⟨0,0,0,0,0,0⟩,7)
 else if (jfv e n lo hi).hi<(jfv e n lo hi).lo then (⟨0,0,0,0,0,0⟩,3)
 else if (jfv e n lo hi).hi=(jfv e n lo hi).lo then ({ jfv e n lo hi with hi:=(jfv e n lo hi).hi+1 },0)
 else (jfv e n lo hi,0)
def nearF(e n:El)(hi:Int):El×Int:=
 if 1<=hi+n.rad/\hi+n.rad<=4194304 then (if (je7 e (jff n.x n.y (hi+n.rad))).2=3 then (El.o,3) else if (je7 e (jff n.x n.y (hi+n.rad))).2=0 then ((je7 e (jff n.x n.y (hi+n.rad))).1,0) else (e,0)) else (e,0)
def qcb(e n:El)(lo hi:Int):El×Int:=
 if (jfh e n lo hi).2=3 then (El.o,3) else if (jfh e n lo hi).2=0 then (if (jgk e (jfh e n lo hi).1).2=3 then (El.o,3) else if (jgk e (jfh e n lo hi).1).2=0 then ((jgk e (jfh e n lo hi).1).1,0) else (e,0)) else (e,0)
def qbp(e n:El)(lo hi:Int):El×Int:=
 if e.may/\n.may/\jhr lo hi then (if (nearF e n hi).2=3 then (El.o,3) else qcb (nearF e n hi).1 n lo hi) else (El.o,1)
def qb5(n:El)(hi:Int):El×Int:=
 if n.may/\0<=hi/\hi<=4194304 then (if 4194304<hi+n.rad then (El.o,2) else (jff n.x n.y (max 1 (hi+n.rad)),0)) else (El.o,1)
structure Flr where
 most:Int
 valid:Bool
 e:El
def Flr.set(f:Flr)(e:El):Flr:=if e.may/\e.tr<=f.most then ⟨f.most,true,e⟩ else f
def Flr.took(f:Flr)(r:El×Int):Flr:=if r.2=0 then ⟨f.most,f.valid,r.1⟩ else if r.2=3 then ⟨f.most,false,El.o⟩ else f
def Flr.range(f:Flr)(n:El)(lo hi:Int):Flr:=
 if f.valid then f.took (qbp f.e n lo hi) else if (qb5 n hi).2=0 then f.set (qb5 n hi).1 else f
def Flr.meet(f:Flr)(e:El):Flr:=if f.valid then f.took (je7 f.e e) else f.set e
def qbl(t:Int):Prop:=0<=t/\t<=1000000
instance(t:Int):Decidable (qbl t):=by unfold qbl;infer_instance
def qfb(w now skew:Int):Int:=if qbl w/\qbl now/\qbl skew then max 0 (now-w)+2*skew+1 else 0
def qcq(e:El)(w now speed skew:Int):El×Int:=if e.may/\qbl w/\qbl now/\qbl skew/\0<=speed/\speed<=4194304 then jg9 e speed (qfb w now skew) else (El.o,1)
def qi7(old fresh:El):El×Int:=if fresh.may then (if (je7 old fresh).2=0 then ((je7 old fresh).1,0) else (fresh,0)) else (El.o,1)
theorem trf(h:e.may):e.tr=e.a+e.d:=by unfold El.tr;rw[if_pos h]
def apart(X Y x y lo hi:Int):Prop:=lo*lo<=(X-x)*(X-x)+(Y-y)*(Y-y)/\(X-x)*(X-x)+(Y-y)*(Y-y)<=hi*hi
theorem q81{x y r:Int}(h:qa1 4194304 x y)(hr:1<=r/\r<=4194304):(jff x y r).may:=by
 have h1:1*1<=r*r:=yQ Q9R Q9R Q9R Q9R;have h2:r*r<=4194304*4194304:=yQ Q9R Q9R Q9R Q9R;have h3:1*1<=(r*r)*(r*r):=yQ Q9R Q9R Q9R Q9R;show qa1 4194304 x y/\(1<=r*r/\r*r<=70368744177664)/\(1<=r*r/\r*r<=70368744177664)/\(-70368744177664<=(0:Int)/\(0:Int)<=70368744177664)/\0<r*r*(r*r)-0*0;exact⟨h,by omega,by omega,by omega,by omega⟩
def Flr.holds(f:Flr)(X Y:Int):Prop:=f.valid=true->f.e.may/\f.e.at X Y
open Go Go.RowKit Sx
abbrev elC(o:Bool)(e:El):Chunk:=⟨o,5,[(0,5,elE e)]⟩
abbrev stC(o:Bool)(s:Strip):Chunk:=⟨o,6,[(0,6,stV s)]⟩
abbrev bC(b:Bool):Chunk:=⟨true,1,[(0,1,.bool b)]⟩
abbrev pt2(i j:Nat):Array Value:=#[xd i,xd j]
abbrev seC(o:Bool)(k m:Nat)(s:GS):Chunk:=⟨o,4,[(0,4,.agg #[.func (.func 190) #[] (pt2 k m),xc s.w,xc s.best.n,.bool s.best.ok])]⟩
theorem el_re(e:El):((elC false e).own=true->(elC w e).own=true/\m<=(elC w e).n)/\(elC false e).n<=(elC w e).n/\qbg ix (elC w e) (elC false e):=qim (qaz rfl rfl)
theorem st_re(e:Strip):((stC false e).own=true->(stC w e).own=true/\m<=(stC w e).n)/\(stC false e).n<=(stC w e).n/\qbg ix (stC w e) (stC false e):=qim (qaz rfl rfl)
theorem b_re(hm:m<=1)(b:Bool):((bC b).own=true->(bC b).own=true/\m<=(bC b).n)/\(bC b).n<=(bC b).n/\qbg ix (bC b) (bC b):=⟨λ_=>⟨rfl,hm⟩,nlr _,g1 (.plain rfl)⟩
theorem g4(h0:p 0)(h1:p 1)(h2:p 2)(h3:p 3):∀j,j<4->p j:=λj hj=>Q5p
theorem jrp{b:Int}(h:a=b):Re1 ix (.int k a) (.int k b):=by subst h;exact .plain rfl
theorem qdb(b:Bool):b=false\/b=true:=by cases b<;>simp
def qq7(e:El):Nat->Int
 | 0=>e.x
 | 1=>e.y
 | 2=>e.a
 | 3=>e.b
 | _=>e.d
def jgm(L:List El)(k:Nat):Int:=qq7 (L.getD (k / 5) El.o) (k%5)
abbrev rwE(cap:Nat)(L:List El):Chunk:=⟨true,cap*5,[(0,cap*5,.agg ⟨segL (cap*5) λk=>xc (jgm L k)⟩)]⟩
variable{cap:Nat}{L:List El}
theorem qgv{k:Nat}(h:k<cap*5):(rwE cap L).f k=xc (jgm L k):=by
 refine Q3R ?_;exact qhc h
theorem jjv(e:El)(i:Nat)(h:i<5):cellIn (elE e) i=xc (qq7 e i):=by
 match i,h with
 | 0,_=>rfl
 | 1,_=>rfl
 | 2,_=>rfl
 | 3,_=>rfl
 | 4,_=>rfl
theorem q36(L:List El)(j i:Nat)(h:i<5):jgm L (j*5+i)=qq7 (L.getD j El.o) i:=by
 unfold jgm;rw[show(j*5+i) / 5=j by omega,show(j*5+i)%5=i by omega]
theorem jo6{j p:Nat}(h:j<cap)(he:L.getD j El.o=e)(hp:p=j*5):Reads (rwE cap L) p true 5 (elE e):=by
 subst hp he;refine⟨by show j*5+5<=cap*5;omega,_,rfl,rfl,λi hi=>?_⟩;rw[qgv Q9R,q36 _ _ _ hi];exact(jjv _ i hi).symm
theorem q37(L:List El)(x:El)(j:Nat):(L++[x]).getD j El.o=if j=L.length then x else L.getD j El.o:=by
 rw[xD,xD,List.getElem?_append];by_cases h:j<L.length
 .rw[if_pos h,if_neg Q9R]
 .rw[if_neg h];by_cases e:j=L.length
  .subst e;simp
  .rw[if_neg e,yl Qah,yl Q9R]
theorem qq8(L:List El)(x:El)(k:Nat):jgm (L++[x]) k=if k / 5=L.length then qq7 x (k%5) else jgm L k:=by
 unfold jgm;rw[q37];split<;>rfl
variable{ci:Chunk}
theorem jjw{k:Nat}{x:El}{z:Value}(hk:k=L.length)(hz:z=elE El.o)(hc:∀j,j<L.length*5->ci.f j=xc (jgm L j))(h:L.length+1<=cap):ChunkLe (rwE cap (L++[x])) (grown ci k 1 5 (elE x) z cap):=by
 subst hz hk;refine ChunkLe.mk (λ_=>rfl) (nlr _) (λj hj=>?_);have hj:j<cap*5:=hj;rw[qgv hj,qq8];by_cases h1:j<L.length*5
 .rw[if_neg Q9R,qgg h1,hc j h1]
 .by_cases h2:j<(L.length+1)*5
  .rw[if_pos Q9R];have:=qgh (ci:=ci) (l:=L.length) (m:=1) (size:=5) (cap:=cap) (v:=elE x) (z:=elE El.o) (j:=j%5) Q9R;rw[show L.length*5+j%5=j by omega] at this;rw[this,jjv _ _ Q9R]
  .rw[if_neg Q9R,qfq Q9R hj];have e5:∀i,i<5->(xc (qq7 El.o i))=(qc6 (elE El.o)).getD i undef:=λi hi=>by
    match i,hi with
    | 0,_=>rfl
    | 1,_=>rfl
    | 2,_=>rfl
    | 3,_=>rfl
    | 4,_=>rfl
   unfold jgm jf0;rw[xD,yl Q9R];exact e5 _ Q9R
theorem qu3{o:Bool}(e:El):∀j,j<1*5->(elC o e).f j=xc (jgm [e] j):=λj hj=>by
 have:=jjv e j Q9R;show qa9 _ _=_;rw[qan,if_pos Q9R,show j-0=j from rfl,this];unfold jgm;rw[show j / 5=0 by omega,show j%5=j by omega];rfl
theorem jc0(e:El):ChunkLe (rwE 1 [e]) (elC true e):=ChunkLe.mk (λ_=>rfl) (nlr _) (λj hj=>by
 have hj:j<1*5:=hj;rw[qgv hj,qu3 e j hj])
abbrev gvC(v:GV):Chunk:=⟨true,2,[(0,2,.agg #[xc v.n,.bool v.ok])]⟩
theorem qkq:∀n,n<6->2<(gwide n).1:=by decide
theorem jhw(of:Int->El×Int)(e:Bool)(n:Nat)(h:n<=6):(0<=(GL.go of e n).x/\(GL.go of e n).x<=34)/\(0<=(GL.go of e n).y/\(GL.go of e n).y<=34)/\(0<=(GL.go of e n).b/\(GL.go of e n).b<=34)/\(0<=(GL.go of e n).a/\(GL.go of e n).a<=34):=by
 obtain⟨h1,h2,h3,h4,h5⟩:=qdv of e n h;have hn:n=0\/n=1\/n=2\/n=3\/n=4\/n=5\/n=6:=by omega
 rcases hn with rfl|rfl|rfl|rfl|rfl|rfl|rfl<;>simp only[gwide] at h1 h2 h3<;>omega
theorem ask_w{of:Int->El×Int}{s:GS}{w:Int}(h:0<=s.w/\s.w<=34)(hw:0<=w/\w<=34):0<=(s.ask of w).w/\(s.ask of w).w<=34:=by
 unfold GS.ask;split
 .exact hw
 .exact h
theorem jqr(of:Int->El×Int)(e:Bool):∀n,n<=6->0<=(GL.go of e n).s.w/\(GL.go of e n).s.w<=34:=by
 intro n
 induction n with
 | zero=>exact λ_=>ask_w (ask_w ⟨xY 0,(by decide:(0:Int)<=34)⟩ Q9V) Q9V
 | succ n ih=>
  intro h;have ih:=ih Q9R;have hx:=jhw of e (n+1) h;have st:GL.go of e (n+1)=(GL.go of e n).step of:=rfl;rw[st] at hx ⊢;generalize GL.go of e n=l at *;unfold GL.step GL.left GL.right at *;split<;>split
  .exact ih
  .rename_i h1 h2;rw[if_pos h1,if_neg h2] at hx;exact ask_w ih hx.1
  .exact ih
  .rename_i h1 h2;rw[if_neg h1,if_neg h2] at hx;exact ask_w ih hx.2.1
theorem qu4{k s l c:Nat}{cj:Chunk}{g size bytes:Nat}{z:Value}{slot:Nat}{K:Value->Mz->Prop}(v:Value)(hr:Reads cj g true (m*size) v)(hf:flatB v (m*size)=true)(hl:l*size<=ci.n)(h1:l+m<=9223372036854775807)(h2:(l+m)*bytes<=140737488355328)
  (d:Chunk) (hw:l+m<=c->Writes ci (l*size) (m*size) v d) (k1:l+m<=c->K (.slice (some ⟨k,0,some s⟩) (l+m) c) [(k,d)]) (k2:c<l+m->∀cap,l+m<=cap->K (.slice (some ⟨slot,0,some 0⟩) (l+m) cap) [(slot,grown ci l m size v z cap)]):N (jm6 ci k s l c cj g m size bytes z slot K):=
 N.mk ⟨v,hr,hf,hl,h1,h2,λh=>⟨d,hw h,k1 h⟩,k2⟩
theorem reI{b:Int}(h:a=b):Re ix (.int k a) (.int k b):=by subst h;exact .plain rfl
theorem jo7:ChunkReLe ix (rwE cap L) (rwE cap L):=⟨id,nlr _,λj hj=>by rw[qgv hj];exact .plain rfl⟩
theorem jjx{o:Bool}{ps:Pz}(h:ChunkLe (rwE cap L) ⟨o,n,ps⟩):ChunkReLe ix (rwE cap L) ⟨o,n,ps⟩:=⟨h.1,h.2.1,λj hj=>by rw[<-h.2.2.1 j hj,qgv hj];exact .plain rfl⟩
theorem ji1{o:Bool}:ChunkReLe ix (elC o e) (elC o e):=⟨id,nlr _,λj hj=>(el_re (m:=0) (w:=o) e).2.2 j hj⟩
theorem jml{o:Bool}{e:Strip}:ChunkReLe ix (stC o e) (stC o e):=⟨id,nlr _,λj hj=>(st_re (m:=0) (w:=o) e).2.2 j hj⟩
theorem jrq{b:Bool}:ChunkReLe ix (bC b) (bC b):=⟨id,nlr _,g1 (.plain rfl)⟩
theorem jjy{o:Bool}(e:El)(hm:m=5):Reads (elC o e) 0 true m (elE e):=by
 subst hm;refine⟨nlr _,_,rfl,rfl,λi hi=>?_⟩;show qa9 _ _=_;rw[qan,if_pos Q9R,show 0+i-0=i by omega];rfl
theorem jo8{p:Nat}{x:El}(ho:ci.own=true)(hx:ci.x=Ext.none)(hn:ci.n=cap*5)(hle:ChunkLe (rwE cap L) ci)(h:L.length<cap)(hp:p=L.length*5):Writes ci p 5 (elE x) (rwE cap (L++[x])):=by
 subst hp;refine⟨ho,by rw[hn];omega,by show(cap*5,Ext.none)=_;rw[hn,hx],λj hj=>?_⟩;rw[hn] at hj;have hc:=(hle.2.2.1 j hj).symm;rw[qgv hj] at hc;rw[qgv hj,qq8];by_cases e:j / 5=L.length
 .rw[if_pos e,if_pos Q9R,jjv _ _ Q9R,show j-L.length*5=j%5 by omega]
 .rw[if_neg e,if_neg Q9R,hc]
theorem q38(hle:ChunkLe (rwE cap L) ci)(h:L.length<=cap):∀j,j<L.length*5->ci.f j=xc (jgm L j):=λj hj=>by
 have hj2:j<cap*5:=xl hj (yb _ h);have:=hle.2.2.1 j hj2;rw[qgv hj2] at this;exact this.symm
theorem qgw(L:List El)(e:El)(k:Nat)(h:k<L.length):(L.take (k+1)).foldl lesser e=lesser ((L.take k).foldl lesser e) (L.getD k El.o):=Q4g
theorem qi8(L:List El)(e:El):(L.take L.length).foldl lesser e=L.foldl lesser e:=by rw[List.take_length]
abbrev gvV(v:GV):Value:=.agg #[xc v.n,.bool v.ok]
theorem jc1(v w:GV)(W:World):xa 208 #[gvV v,gvV w] W (.bool (v.most w)):=by
 obtain⟨n,a⟩:=v;obtain⟨m,b⟩:=w;unfold GV.most;refine qac (G:=tys) W tysOK mixed func208 Q9S Q9S Q9S ?_;cases a<;>cases b
 all_goals
  repeat' (first|(refine Ba ?_;first|refine Q5P ?_|refine Bg rfl ?_|refine Bf rfl ?_|fail)|refine qah Q9S ?_)
 all_goals rfl
theorem jlc(v w:GV)(h:Hp):qae prog 208 [gvV v,gvV w] h (.bool (v.most w)) [] []:=
 qai rfl rfl (call208 _) (jc1 v w)
theorem jmm{p:Prop}[Decidable p](h:p):(!decide p)=false:=by rw[xg h];rfl
abbrev jld(o:Bool)(i j:Nat):Chunk:=⟨o,1,[(0,1,.func (.func 166) #[] (pt2 i j))]⟩
abbrev jqs(i j:Nat):Value:=.func (.func 166) #[] (pt2 i j)
theorem cWF(e:El)(f:El)(w:Int)(hw:0<=w/\w<=34)(he:e.may)(hf:f.may)(i j:Nat)(hij:i≠j)(o1 o2:Bool)(h:Hp)(hi:h[i]?=some (some (elC o1 e)))(hj:h[j]?=some (some (elC o2 f))):
  qae prog 166 [xc w,xd i,xd j] h (.tuple #[elE (jez e f w).1,xc (jez e f w).2]) [] [i,j]:=by
 refine qak (G:=tys) [⟨i,_,elC false e,⟨false,0,[]⟩⟩,⟨j,_,elC false f,⟨false,0,[]⟩⟩] [] [xc w,xd 0,xd 1] tysOK mixed func166 Q9S (call166) ⟨hi,hj,xb⟩ ⟨el_re _,el_re _,xb⟩ Qas xb Q9c ?_
 repeat' (first|(refine Ba ?_;first|refine Q5P ?_|refine Bb (jcy e f w _ hw he hf) ?_|refine Q6o ?_|refine Bc xb ?_|exact Be|fail)|refine qah Q9S ?_)
theorem cQF(e:El)(f:El)(w:Int)(b:Bool)(hw:0<=w/\w<=34)(he:e.may)(hf:f.may)(k m i j:Nat)(hne:[k,m,i,j].Nodup)(o1 o2 o3:Bool)(h:Hp)(hk:h[k]?=some (some (jld o3 i j)))(hm:h[m]?=some (some (bC b)))(hi:h[i]?=some (some (elC o1 e)))(hj:h[j]?=some (some (elC o2 f))):
  qae prog 190 [xc w,xd k,xd m] h (.tuple #[xc (jfq (jez e f) w).n,.bool (jfq (jez e f) w).ok]) [(m,bC (b||decide ((jez e f w).2=3)))] [k,i,j]:=by
 simp only[xL,xj,xK,or_false,not_or,xI,yN,and_true] at hne
 refine qak (G:=tys) [⟨m,_,bC b,bC (b||decide ((jez e f w).2=3))⟩,⟨k,_,jld false 2 3,⟨false,0,[]⟩⟩,⟨i,_,elC false e,⟨false,0,[]⟩⟩,⟨j,_,elC false f,⟨false,0,[]⟩⟩] [] [xc w,xd 1,xd 0] tysOK mixed func190 Q9S (call190) ⟨hm,hk,hi,hj,xb⟩ ⟨b_re (nlr _) _,Q8j,el_re _,el_re _,xb⟩ QaK xb Q9c ?_
 cases b
 all_goals
  repeat' (first|(refine Ba ?_;first|refine Q5P ?_|refine Bb (cWF e f w hw he hf 2 3 Q9V _ _ _ Q9S Q9S) ?_|refine Bb (qe0 _ _ _ _ _ _) ?_|refine Bg Q9S ?_|refine Q6o ?_|refine Q6y ?_|exact Be|fail)|refine qah Q9S ?_)
theorem jle(e:El)(f:El)(w:Int)(s:GS)(hw:0<=w/\w<=34)(he:e.may)(hf:f.may)(a k m i j:Nat)(hne:[a,k,m,i,j].Nodup)(o1 o2 o3:Bool)(h:Hp)(ha:h[a]?=some (some (seC true k m s)))(hk:h[k]?=some (some (jld o3 i j)))(hm:h[m]?=some (some (bC s.emp)))(hi:h[i]?=some (some (elC o1 e)))(hj:h[j]?=some (some (elC o2 f))):
  qae prog 207 [xd a,xc w] h (.agg #[xc (jfq (jez e f) w).n,.bool (jfq (jez e f) w).ok]) [(a,seC true k m (s.ask (jez e f) w)),(m,bC (s.ask (jez e f) w).emp)] [k,i,j]:=by
 simp only[xL,xj,xK,or_false,not_or,xI,yN,and_true] at hne
 have hemp:(s.ask (jez e f) w).emp=(s.emp||decide ((jez e f w).2=3)):=by unfold GS.ask;split<;>rfl
 rcases qdb (jfq (jez e f) w).ok with h1|h1
 .skip;have hs':s.ask (jez e f) w=⟨s.w,s.best,s.emp||decide ((jez e f w).2=3)⟩:=by unfold GS.ask;exact if_neg (by simp[h1])
  exact Q06
 .rcases qdb s.best.ok with h2|h2
  .skip;have hs':s.ask (jez e f) w=⟨w,jfq (jez e f) w,s.emp||decide ((jez e f w).2=3)⟩:=by unfold GS.ask;exact if_pos (by simp[h1,h2])
   exact Q06
  .by_cases h3:(jfq (jez e f) w).n<s.best.n
   .skip;have hs':s.ask (jez e f) w=⟨w,jfq (jez e f) w,s.emp||decide ((jez e f w).2=3)⟩:=by unfold GS.ask;exact if_pos (by simp[h1,h2,h3])
    exact Q06
   .by_cases h4:(jfq (jez e f) w).n=s.best.n
    .by_cases h5:w<s.w
     .skip;have hs':s.ask (jez e f) w=⟨w,jfq (jez e f) w,s.emp||decide ((jez e f w).2=3)⟩:=by unfold GS.ask;exact if_pos (by simp[h1,h2,h4,h5])
      exact Q06
     .skip;have hs':s.ask (jez e f) w=⟨s.w,s.best,s.emp||decide ((jez e f w).2=3)⟩:=by unfold GS.ask;exact if_neg (by simp[h1,h2,h3,h5])
      exact Q06
    .skip;have hs':s.ask (jez e f) w=⟨s.w,s.best,s.emp||decide ((jez e f w).2=3)⟩:=by unfold GS.ask;exact if_neg (by simp[h1,h2,h3,h4])
     exact Q06
theorem qq9(e:El)(f:El)(w w':Int)(s:GS)(hww:w'=w)(hw:0<=w/\w<=34)(he:e.may)(hf:f.may)(a k m i j:Nat)(hne:[a,k,m,i,j].Nodup)(o1 o2 o3:Bool)(h:Hp)(ha:h[a]?=some (some (seC true k m s)))(hk:h[k]?=some (some (jld o3 i j)))(hm:h[m]?=some (some (bC s.emp)))(hi:h[i]?=some (some (elC o1 e)))(hj:h[j]?=some (some (elC o2 f))):
  qae prog 207 [xd a,xc w'] h (.agg #[xc (jfq (jez e f) w).n,.bool (jfq (jez e f) w).ok]) [(a,seC true k m (s.ask (jez e f) w)),(m,bC (s.ask (jez e f) w).emp)] [k,i,j]:=by
 subst hww
 exact jle e f w' s hw he hf a k m i j hne o1 o2 o3 h ha hk hm hi hj
theorem jc2(e:El)(f:El)(b:Bool)(he:e.may)(hf:f.may)(k m i j:Nat)(hne:[k,m,i,j].Nodup)(o1 o2 o3:Bool)(h:Hp)(hk:h[k]?=some (some (jld o3 i j)))(hm:h[m]?=some (some (bC b)))(hi:h[i]?=some (some (elC o1 e)))(hj:h[j]?=some (some (elC o2 f))):
  qae prog 189 [.func (.func 190) #[] (pt2 k m)] h (.tuple #[xc (GL.go (jez e f) b 6).s.w,xc (GL.go (jez e f) b 6).s.best.n,.bool (GL.go (jez e f) b 6).s.best.ok]) [(m,bC (GL.go (jez e f) b 6).s.emp)] [k,i,j]:=by
 simp only[xL,xj,xK,or_false,not_or,xI,yN,and_true] at hne
 refine qak (G:=tys) [⟨m,_,bC b,bC (GL.go (jez e f) b 6).s.emp⟩,⟨k,_,jld false 2 3,⟨false,0,[]⟩⟩,⟨i,_,elC false e,⟨false,0,[]⟩⟩,⟨j,_,elC false f,⟨false,0,[]⟩⟩] [] [.func (.func 190) #[] (pt2 1 0)] tysOK mixed func189 Q9S (call189) ⟨hm,hk,hi,hj,xb⟩ ⟨b_re (nlr _) _,Q8j,el_re _,el_re _,xb⟩ QaK xb ⟨.func xb Q8r,xb⟩ ?_
 repeat' (first|(refine Ba ?_;first|refine Q5P ?_|refine Bb (jle e f 13 ⟨0,⟨0,false⟩,b⟩ Q9V he hf 4 1 0 2 3 Q9V _ _ _ _ Q9S Q9S Q9S Q9S Q9S) ?_|refine Bb (jle e f 21 (GS.ask (jez e f) ⟨0,⟨0,false⟩,b⟩ 13) Q9V he hf 4 1 0 2 3 Q9V _ _ _ _ Q9S Q9S Q9S Q9S Q9S) ?_|refine Q66 ?_|refine Bb (jlc (jfq (jez e f) 13) (jfq (jez e f) 21) _) ?_|refine Q6c ?_|refine Bj (λhb=>?_) (λhb=>?_)|refine Bb (qq9 e f 8 _ (GS.first (jez e f) b) Q9V Q9V he hf 4 1 0 2 3 Q9V _ _ _ _ Q9S Q9S Q9S Q9S Q9S) ?_)|refine qah Q9S ?_)
 .refine Ba ?_;refine N.jumps tysOK mixed (α:=Nat) (λl n=>(l=0/\n<=6)\/(l=1/\n<6/\(GL.go (jez e f) b n).fx.most (GL.go (jez e f) b n).fy=false)) (λl n=>if l=0 then 2*(6-n)+1 else 2*(6-n)) (λ_ n=>[(5,xd 4),(6,xc (GL.go (jez e f) b n).a),(7,xc (GL.go (jez e f) b n).b),(8,xc (GL.go (jez e f) b n).x),(9,xc (GL.go (jez e f) b n).y),(10,xd 13),(11,xd 14)]) (λ_ n=>[(0,bC (GL.go (jez e f) b n).s.emp),(4,seC true 1 0 (GL.go (jez e f) b n).s),(13,gvC (GL.go (jez e f) b n).fx),(14,gvC (GL.go (jez e f) b n).fy)]) 0 Q9A ?_ ?_
  .exact Q1T
  exact Q08
 .refine Ba ?_;refine N.jumps tysOK mixed (α:=Nat) (λl n=>(l=0/\n<=6)\/(l=1/\n<6/\(GL.go (jez e f) b n).fx.most (GL.go (jez e f) b n).fy=false)) (λl n=>if l=0 then 2*(6-n)+1 else 2*(6-n)) (λ_ n=>[(5,xd 4),(6,xc (GL.go (jez e f) b n).a),(7,xc (GL.go (jez e f) b n).b),(8,xc (GL.go (jez e f) b n).x),(9,xc (GL.go (jez e f) b n).y),(10,xd 13),(11,xd 14)]) (λ_ n=>[(0,bC (GL.go (jez e f) b n).s.emp),(4,seC true 1 0 (GL.go (jez e f) b n).s),(13,gvC (GL.go (jez e f) b n).fx),(14,gvC (GL.go (jez e f) b n).fy)]) 1 (.inl ⟨rfl,by decide⟩) ?_ ?_
  .rw[show GL.go (jez e f) b 1=(GL.start (jez e f) b).left (jez e f) from if_pos Qb6];exact Q1T
  exact Q08
theorem q82(e:El)(f:El)(he:e.may)(hf:f.may)(i j:Nat)(q:Nat)(o4:Bool)(hne:[i,j,q].Nodup)(o1 o2:Bool)(h:Hp)(hi:h[i]?=some (some (elC o1 e)))(hj:h[j]?=some (some (elC o2 f)))(hq:h[q]?=some (some (elC o4 f))):
  qae prog 165 [elE e,jqs i j,.slice (some ⟨q,0,some 0⟩) 1 1] h (.tuple #[elE (qbq e (jez e f) [f]).1,xc (qbq e (jez e f) [f]).2]) [] [i,j,q]:=by
 simp only[xL,xj,xK,or_false,not_or,xI,yN,and_true] at hne
 refine qak (G:=tys) [⟨i,_,elC false e,⟨false,0,[]⟩⟩,⟨j,_,elC false f,⟨false,0,[]⟩⟩,⟨q,_,elC false f,⟨false,0,[]⟩⟩] [] [elE e,jqs 0 1,.slice (some ⟨2,0,some 0⟩) 1 1] tysOK mixed func165 Q9S (call165) ⟨hi,hj,hq,xb⟩ ⟨el_re _,el_re _,el_re _,xb⟩ (by simp[Apart, *]) xb ⟨.plain rfl,.func xb Q8r,.slice rfl,xb⟩ ?_
 repeat' (first|(refine Ba ?_;first|refine Q5P ?_|refine Bb (jc2 e f false he hf 4 6 0 1 Q9V _ _ _ _ Q9S Q9S Q9S Q9S) ?_)|refine qah Q9S ?_)
 rcases qdb (GL.go (jez e f) false 6).s.emp with hem|hem
 .rcases qdb (GL.go (jez e f) false 6).s.best.ok with hok|hok
  .have hF:qbq e (jez e f) [f]=(([e]++[f]).foldl lesser e,0):=by unfold qbq;rw[hem,hok];rfl
   rw[hF];repeat' (first|(refine Ba ?_;first|refine Q5P ?_|refine Bf hem ?_|refine Bf hok ?_)|refine qah Q9S ?_)
   refine Ba ?_;refine qu4 (elE f) (jjy f rfl) rfl (by show 1*5<=5;decide) Q9V Q9V (rwE 1 [e]) (λh=>absurd h Q9V) (λh=>absurd h Q9V) (λ_ cap hcap=>?_);have le1:ChunkLe (rwE cap ([e]++[f])) (grown (elC true e) 1 1 5 (elE f) (elE El.o) cap):=jjw rfl rfl (qu3 e) hcap;refine Q01 ?_;refine Bq (α:=Nat) (λk=>k<=2) (λk=>2-k) (λk=>[(44,xc (k:Int))]) (λk=>[(9,rwE cap ([e]++[f])),(8,elC true ((([e]++[f]).take k).foldl lesser e))]) 0 [(0,0),(1,1),(2,2),(3,3),(4,4),(5,5),(6,6),(7,7),(8,8),(9,9)] (xi _) ?_ ?_
   .exact Q1h
   intro k hk;by_cases hlt:k<2
   .have st:=qgw ([e]++[f]) e k hlt;generalize hO:(([e]++[f]).take k).foldl lesser e=O;by_cases hless:(([e]++[f]).getD k El.o).tr<O.tr
    .have hls:lesser O (([e]++[f]).getD k El.o)=([e]++[f]).getD k El.o:=if_pos hless;refine Q0z ?_;exact Q3W
    .have hls:lesser O (([e]++[f]).getD k El.o)=O:=if_neg hless;refine Q0w ?_;exact Q3W
   .obtain rfl:k=2:=by omega
    rw[show(([e]++[f]).take 2).foldl lesser e=([e]++[f]).foldl lesser e from qi8 ([e]++[f]) e];exact Q0Q
  .have hF:qbq e (jez e f) [f]=((([e]++[(jez e f (GL.go (jez e f) false 6).s.w).1])++[f]).foldl lesser e,0):=by unfold qbq;rw[hem,hok];rfl
   rw[hF];repeat' (first|(refine Ba ?_;first|refine Q5P ?_|refine Bf hem ?_|refine Bg hok ?_|refine Bb (cWF e f (GL.go (jez e f) false 6).s.w (jqr _ _ 6 Q9V) he hf 0 1 Q9V _ _ _ Q9S Q9S) ?_)|refine qah Q9S ?_)
   refine Ba ?_;generalize hX:(jez e f (GL.go (jez e f) false 6).s.w).1=X at *;refine qu4 (elE X) (jjy X rfl) rfl (by show 1*5<=5;decide) Q9V Q9V (rwE 1 [e]) (λh=>absurd h Q9V) (λh=>absurd h Q9V) (λ_ cap hcap=>?_);have le1:ChunkLe (rwE cap ([e]++[X])) (grown (elC true e) 1 1 5 (elE X) (elE El.o) cap):=jjw rfl rfl (qu3 e) hcap;refine Q01 ?_;refine qu4 (elE f) (jjy f rfl) rfl (by show 2*5<=cap*5;omega) Q9V Q9V (rwE cap (([e]++[X])++[f])) (λh=>jo8 rfl rfl rfl le1 (show 2<cap from h) rfl) (λhr=>?_) (λhg cap2 hcap2=>?_)
   .skip;refine Q01 ?_;refine Bq (α:=Nat) (λk=>k<=3) (λk=>3-k) (λk=>[(44,xc (k:Int))]) (λk=>[(14,rwE cap (([e]++[X])++[f])),(15,elC true (((([e]++[X])++[f]).take k).foldl lesser e))]) 0 [(0,0),(1,1),(2,2),(3,3),(4,4),(5,5),(6,6),(7,7),(12,12),(13,13),(14,14),(15,15)] (xi _) ?_ ?_
    .repeat' (refine Ba ?_;first|exact Be|refine Q5W ?_|refine Q7l ?_|refine Q6d ?_|refine Bc (jjx (ChunkLe.refl _)) ?_|refine Bc ji1 ?_|refine Q6I ?_|fail)
    intro k hk;by_cases hlt:k<3
    .have st:=qgw (([e]++[X])++[f]) e k hlt;generalize hO:((([e]++[X])++[f]).take k).foldl lesser e=O;by_cases hless:((([e]++[X])++[f]).getD k El.o).tr<O.tr
     .have hls:lesser O ((([e]++[X])++[f]).getD k El.o)=(([e]++[X])++[f]).getD k El.o:=if_pos hless;refine Q0z ?_;exact Q3G
     .have hls:lesser O ((([e]++[X])++[f]).getD k El.o)=O:=if_neg hless;refine Q0w ?_;exact Q3G
    exact Q41
   .have le2:ChunkLe (rwE cap2 (([e]++[X])++[f])) (grown (grown (elC true e) 1 1 5 (elE X) (elE El.o) cap) 2 1 5 (elE f) (elE El.o) cap2):=jjw rfl rfl (q38 le1 hcap) hcap2;refine Q01 ?_;refine Bq (α:=Nat) (λk=>k<=3) (λk=>3-k) (λk=>[(44,xc (k:Int))]) (λk=>[(16,rwE cap2 (([e]++[X])++[f])),(15,elC true (((([e]++[X])++[f]).take k).foldl lesser e)),(14,rwE cap ([e]++[X]))]) 0 [(0,0),(1,1),(2,2),(3,3),(4,4),(5,5),(6,6),(7,7),(12,12),(13,13),(14,14),(15,15),(16,16)] (xi _) ?_ ?_
    .repeat' (refine Ba ?_;first|exact Be|refine Q5W ?_|refine Q7l ?_|refine Q6d ?_|refine Bc (jjx le2) ?_|refine Bc (jjx le1) ?_|refine Bc ji1 ?_|refine Q6I ?_|fail)
    intro k hk;by_cases hlt:k<3
    .have st:=qgw (([e]++[X])++[f]) e k hlt;generalize hO:((([e]++[X])++[f]).take k).foldl lesser e=O;by_cases hless:((([e]++[X])++[f]).getD k El.o).tr<O.tr
     .have hls:lesser O ((([e]++[X])++[f]).getD k El.o)=(([e]++[X])++[f]).getD k El.o:=if_pos hless;refine Q0z ?_;exact Q3w
     .have hls:lesser O ((([e]++[X])++[f]).getD k El.o)=O:=if_neg hless;refine Q0w ?_;exact Q3w
    exact Q41
 .have hF:qbq e (jez e f) [f]=(El.o,3):=by unfold qbq;rw[hem];rfl
  exact Q2o
theorem q83(e f:El)(he:e.may)(hf:f.may)(W:World):xa 142 #[elE e,elE f] W (.tuple #[elE (je7 e f).1,xc (je7 e f).2]):=by
 rw[show je7 e f=qbq e (jez e f) [f] from if_pos ⟨he,hf⟩];refine qac (G:=tys) W tysOK mixed func142 Q9S Q9S Q9S ?_;repeat' (first|(refine Ba ?_;first|refine Q5P ?_|refine Q6A ?_|refine Bf (jmm he) ?_|refine Bf (jmm hf) ?_|refine Bb (q82 e f he hf 0 1 3 true Q9V _ _ _ Q9S Q9S Q9S) ?_|refine Q6o ?_|refine Bc xb ?_|exact Be|fail)|refine qah Q9S ?_)
 all_goals rfl
theorem qi9(e f:El)(h:Hp)(he:e.may)(hf:f.may):qae prog 142 [elE e,elE f] h (.tuple #[elE (je7 e f).1,xc (je7 e f).2]) [] []:=
 qai rfl rfl (call142 _) (q83 e f he hf)
theorem q84(e f r:El)(c:Int)(h:Hp)(hr:je7 e f=(r,c))(he:e.may)(hf:f.may):qae prog 142 [elE e,elE f] h (.tuple #[elE r,xc c]) [] []:=by
 have:=qi9 e f h he hf;rw[hr] at this;exact this
end Go.Proofs.YtfkngpmgcimdbaaGreat
