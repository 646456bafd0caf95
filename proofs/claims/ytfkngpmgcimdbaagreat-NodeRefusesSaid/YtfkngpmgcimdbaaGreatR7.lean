/-
  The walks of golden: the best weight for two ellipses.
-/
import Derived.Test.YtfkngpmgcimdbaaGreatR6
set_option linter.unusedVariables false
set_option linter.unusedSimpArgs false
set_option maxRecDepth 100000
set_option maxHeartbeats 20000000
open Go.Proofs.Tryz
namespace Go.Proofs
section
variable{Z Y:Prop}
theorem Q05(h:Z:=by
 refine qak (G:=tys) [⟨a,_,seC true 2 1 s,seC true k m (s.ask (jel e f) w)⟩,⟨m,_,bC s.emp,bC (s.ask (jel e f) w).emp⟩,⟨k,_,jkj false 3 4,⟨false,0,[]⟩⟩,⟨i,_,elC false e,⟨false,0,[]⟩⟩,⟨j,_,elC false f,⟨false,0,[]⟩⟩] [] [xd 0,xc w] tysOK mixed func207 Q8F (call207) ⟨ha,hm,hk,hi,hj,xb⟩ ⟨Q8k,b_re (nlr _) _,Q7l,el_re _,el_re _,xb⟩ Q9s xb Q79 ?_;repeat' (first|(refine Ba ?_;first|refine Q4Z ?_|refine Bb (cQF e f w s.emp hw he hf 2 1 3 4 Q8I _ _ _ _ Q8F Q8F Q8F Q8F) ?_|refine Q5B ?_|exact Be|fail)|refine qah Q8F ?_)):Z:=h
theorem Q06(h:Z:=by
 refine qak (G:=tys) [⟨a,_,seC true 2 1 s,seC true k m (s.ask (jem e f) w)⟩,⟨m,_,bC s.emp,bC (s.ask (jem e f) w).emp⟩,⟨k,_,jkl false 3 4,⟨false,0,[]⟩⟩,⟨i,_,elC false e,⟨false,0,[]⟩⟩,⟨j,_,stC false f,⟨false,0,[]⟩⟩] [] [xd 0,xc w] tysOK mixed func207 Q8F (call207) ⟨ha,hm,hk,hi,hj,xb⟩ ⟨Q8k,b_re (nlr _) _,Q7l,el_re _,st_re _,xb⟩ Q9s xb Q79 ?_;repeat' (first|(refine Ba ?_;first|refine Q4Z ?_|refine Bb (cQC e f w s.emp hw he hf 2 1 3 4 Q8I _ _ _ _ Q8F Q8F Q8F Q8F) ?_|refine Q5B ?_|exact Be|fail)|refine qah Q8F ?_)):Z:=h
theorem Q07(h:Z:=by
 intro l n hok;have hn6:n<=6:=by omega
 have gw:=qdz (jel e f) b n hn6;have gx:=jhb (jel e f) b n hn6;rcases hok with ⟨rfl,hn⟩|⟨rfl,hn,hmost⟩
 .refine⟨_,rfl,?_⟩;by_cases h6:n=6
  .subst h6;have e2:(GL.go (jel e f) b 6).b-(GL.go (jel e f) b 6).a=2:=by have:=gw.1;simp only[gwide] at this;omega
   exact Q1I
  .have hn5:n<6:=by omega
   have gw1:=qdz (jel e f) b (n+1) Q8E;have gx1:=jhb (jel e f) b (n+1) Q8E;have hwid:2<(GL.go (jel e f) b n).b-(GL.go (jel e f) b n).a:=by have:=gw.1;have:=qkk n hn5;omega
   have w1:IntKind.i64.wrap (IntKind.i64.wrap ((GL.go (jel e f) b n).a+(GL.go (jel e f) b n).y)-(GL.go (jel e f) b n).x)=(GL.go (jel e f) b n).a+(GL.go (jel e f) b n).y-(GL.go (jel e f) b n).x:=by rw[jep ((GL.go (jel e f) b n).a+(GL.go (jel e f) b n).y) Q8E Q8E,jep _ Q8E Q8E]
   rcases qd6 ((GL.go (jel e f) b n).fx.most (GL.go (jel e f) b n).fy) with hm|hm
   .exact Q1l
   .have st:(GL.go (jel e f) b (n+1))=(GL.go (jel e f) b n).left (jel e f):=by show GL.step _ _=_;unfold GL.step;rw[if_pos hm]
    by_cases heq:(GL.go (jel e f) b n).a+(GL.go (jel e f) b n).y-(GL.go (jel e f) b n).x=(GL.go (jel e f) b n).x
    .have st2:(GL.go (jel e f) b (n+1))=⟨(GL.go (jel e f) b n).a,(GL.go (jel e f) b n).y,(GL.go (jel e f) b n).a+(GL.go (jel e f) b n).y-(GL.go (jel e f) b n).x,(GL.go (jel e f) b n).x,(GL.go (jel e f) b n).fx,(GL.go (jel e f) b n).fx,(GL.go (jel e f) b n).s⟩:=by rw[st];unfold GL.left;rw[if_pos heq]
     exact Q1W
    .have st2:(GL.go (jel e f) b (n+1))=⟨(GL.go (jel e f) b n).a,(GL.go (jel e f) b n).y,(GL.go (jel e f) b n).a+(GL.go (jel e f) b n).y-(GL.go (jel e f) b n).x,(GL.go (jel e f) b n).x,je8 (jel e f) ((GL.go (jel e f) b n).a+(GL.go (jel e f) b n).y-(GL.go (jel e f) b n).x),(GL.go (jel e f) b n).fx,(GL.go (jel e f) b n).s.ask (jel e f) ((GL.go (jel e f) b n).a+(GL.go (jel e f) b n).y-(GL.go (jel e f) b n).x)⟩:=by rw[st];unfold GL.left;rw[if_neg heq]
     have hr:0<=(GL.go (jel e f) b n).a+(GL.go (jel e f) b n).y-(GL.go (jel e f) b n).x/\(GL.go (jel e f) b n).a+(GL.go (jel e f) b n).y-(GL.go (jel e f) b n).x<=34:=by have:=gx1.1;rw[st2] at this;exact this
     repeat' (first|(refine Ba ?_;first|refine Q4Z ?_|refine Q60 ?_|refine Bf (by rw[hm];rfl) ?_|refine Q6V ?_|refine Bb (qq7 e f ((GL.go (jel e f) b n).a+(GL.go (jel e f) b n).y-(GL.go (jel e f) b n).x) _ (GL.go (jel e f) b n).s w1 hr he hf 4 1 0 2 3 Q8I _ _ _ _ Q8F Q8F Q8F Q8F Q8F) ?_)|refine qah Q8F ?_)
     exact Q22
 .refine⟨_,rfl,?_⟩;have gw1:=qdz (jel e f) b (n+1) Q8E;have gx1:=jhb (jel e f) b (n+1) Q8E;have w1:IntKind.i64.wrap (IntKind.i64.wrap ((GL.go (jel e f) b n).x+(GL.go (jel e f) b n).b)-(GL.go (jel e f) b n).y)=(GL.go (jel e f) b n).x+(GL.go (jel e f) b n).b-(GL.go (jel e f) b n).y:=by rw[jep ((GL.go (jel e f) b n).x+(GL.go (jel e f) b n).b) Q8E Q8E,jep _ Q8E Q8E]
  have st:(GL.go (jel e f) b (n+1))=(GL.go (jel e f) b n).right (jel e f):=by show GL.step _ _=_;unfold GL.step;rw[if_neg (by rw[hmost];decide)]
  by_cases heq:(GL.go (jel e f) b n).x+(GL.go (jel e f) b n).b-(GL.go (jel e f) b n).y=(GL.go (jel e f) b n).y
  .have st2:(GL.go (jel e f) b (n+1))=⟨(GL.go (jel e f) b n).x,(GL.go (jel e f) b n).b,(GL.go (jel e f) b n).y,(GL.go (jel e f) b n).x+(GL.go (jel e f) b n).b-(GL.go (jel e f) b n).y,(GL.go (jel e f) b n).fy,(GL.go (jel e f) b n).fy,(GL.go (jel e f) b n).s⟩:=by rw[st];unfold GL.right;rw[if_pos heq]
   exact Q1X
  .have st2:(GL.go (jel e f) b (n+1))=⟨(GL.go (jel e f) b n).x,(GL.go (jel e f) b n).b,(GL.go (jel e f) b n).y,(GL.go (jel e f) b n).x+(GL.go (jel e f) b n).b-(GL.go (jel e f) b n).y,(GL.go (jel e f) b n).fy,je8 (jel e f) ((GL.go (jel e f) b n).x+(GL.go (jel e f) b n).b-(GL.go (jel e f) b n).y),(GL.go (jel e f) b n).s.ask (jel e f) ((GL.go (jel e f) b n).x+(GL.go (jel e f) b n).b-(GL.go (jel e f) b n).y)⟩:=by rw[st];unfold GL.right;rw[if_neg heq]
   have hr:0<=(GL.go (jel e f) b n).x+(GL.go (jel e f) b n).b-(GL.go (jel e f) b n).y/\(GL.go (jel e f) b n).x+(GL.go (jel e f) b n).b-(GL.go (jel e f) b n).y<=34:=by have:=gx1.2.1;rw[st2] at this;exact this
   repeat' (first|(refine Ba ?_;first|refine Q4Z ?_|refine Q6V ?_|refine Bb (qq7 e f ((GL.go (jel e f) b n).x+(GL.go (jel e f) b n).b-(GL.go (jel e f) b n).y) _ (GL.go (jel e f) b n).s w1 hr he hf 4 1 0 2 3 Q8I _ _ _ _ Q8F Q8F Q8F Q8F Q8F) ?_)|refine qah Q8F ?_)
   exact Q24):Z:=h
theorem Q08(h:Z:=by
 intro l n hok;have hn6:n<=6:=by omega
 have gw:=qdz (jem e f) b n hn6;have gx:=jhb (jem e f) b n hn6;rcases hok with ⟨rfl,hn⟩|⟨rfl,hn,hmost⟩
 .refine⟨_,rfl,?_⟩;by_cases h6:n=6
  .subst h6;have e2:(GL.go (jem e f) b 6).b-(GL.go (jem e f) b 6).a=2:=by have:=gw.1;simp only[gwide] at this;omega
   exact Q1I
  .have hn5:n<6:=by omega
   have gw1:=qdz (jem e f) b (n+1) Q8E;have gx1:=jhb (jem e f) b (n+1) Q8E;have hwid:2<(GL.go (jem e f) b n).b-(GL.go (jem e f) b n).a:=by have:=gw.1;have:=qkk n hn5;omega
   have w1:IntKind.i64.wrap (IntKind.i64.wrap ((GL.go (jem e f) b n).a+(GL.go (jem e f) b n).y)-(GL.go (jem e f) b n).x)=(GL.go (jem e f) b n).a+(GL.go (jem e f) b n).y-(GL.go (jem e f) b n).x:=by rw[jep ((GL.go (jem e f) b n).a+(GL.go (jem e f) b n).y) Q8E Q8E,jep _ Q8E Q8E]
   rcases qd6 ((GL.go (jem e f) b n).fx.most (GL.go (jem e f) b n).fy) with hm|hm
   .exact Q1l
   .have st:(GL.go (jem e f) b (n+1))=(GL.go (jem e f) b n).left (jem e f):=by show GL.step _ _=_;unfold GL.step;rw[if_pos hm]
    by_cases heq:(GL.go (jem e f) b n).a+(GL.go (jem e f) b n).y-(GL.go (jem e f) b n).x=(GL.go (jem e f) b n).x
    .have st2:(GL.go (jem e f) b (n+1))=⟨(GL.go (jem e f) b n).a,(GL.go (jem e f) b n).y,(GL.go (jem e f) b n).a+(GL.go (jem e f) b n).y-(GL.go (jem e f) b n).x,(GL.go (jem e f) b n).x,(GL.go (jem e f) b n).fx,(GL.go (jem e f) b n).fx,(GL.go (jem e f) b n).s⟩:=by rw[st];unfold GL.left;rw[if_pos heq]
     exact Q1W
    .have st2:(GL.go (jem e f) b (n+1))=⟨(GL.go (jem e f) b n).a,(GL.go (jem e f) b n).y,(GL.go (jem e f) b n).a+(GL.go (jem e f) b n).y-(GL.go (jem e f) b n).x,(GL.go (jem e f) b n).x,je8 (jem e f) ((GL.go (jem e f) b n).a+(GL.go (jem e f) b n).y-(GL.go (jem e f) b n).x),(GL.go (jem e f) b n).fx,(GL.go (jem e f) b n).s.ask (jem e f) ((GL.go (jem e f) b n).a+(GL.go (jem e f) b n).y-(GL.go (jem e f) b n).x)⟩:=by rw[st];unfold GL.left;rw[if_neg heq]
     have hr:0<=(GL.go (jem e f) b n).a+(GL.go (jem e f) b n).y-(GL.go (jem e f) b n).x/\(GL.go (jem e f) b n).a+(GL.go (jem e f) b n).y-(GL.go (jem e f) b n).x<=34:=by have:=gx1.1;rw[st2] at this;exact this
     repeat' (first|(refine Ba ?_;first|refine Q4Z ?_|refine Q60 ?_|refine Bf (by rw[hm];rfl) ?_|refine Q6V ?_|refine Bb (qq8 e f ((GL.go (jem e f) b n).a+(GL.go (jem e f) b n).y-(GL.go (jem e f) b n).x) _ (GL.go (jem e f) b n).s w1 hr he hf 4 1 0 2 3 Q8I _ _ _ _ Q8F Q8F Q8F Q8F Q8F) ?_)|refine qah Q8F ?_)
     exact Q22
 .refine⟨_,rfl,?_⟩;have gw1:=qdz (jem e f) b (n+1) Q8E;have gx1:=jhb (jem e f) b (n+1) Q8E;have w1:IntKind.i64.wrap (IntKind.i64.wrap ((GL.go (jem e f) b n).x+(GL.go (jem e f) b n).b)-(GL.go (jem e f) b n).y)=(GL.go (jem e f) b n).x+(GL.go (jem e f) b n).b-(GL.go (jem e f) b n).y:=by rw[jep ((GL.go (jem e f) b n).x+(GL.go (jem e f) b n).b) Q8E Q8E,jep _ Q8E Q8E]
  have st:(GL.go (jem e f) b (n+1))=(GL.go (jem e f) b n).right (jem e f):=by show GL.step _ _=_;unfold GL.step;rw[if_neg (by rw[hmost];decide)]
  by_cases heq:(GL.go (jem e f) b n).x+(GL.go (jem e f) b n).b-(GL.go (jem e f) b n).y=(GL.go (jem e f) b n).y
  .have st2:(GL.go (jem e f) b (n+1))=⟨(GL.go (jem e f) b n).x,(GL.go (jem e f) b n).b,(GL.go (jem e f) b n).y,(GL.go (jem e f) b n).x+(GL.go (jem e f) b n).b-(GL.go (jem e f) b n).y,(GL.go (jem e f) b n).fy,(GL.go (jem e f) b n).fy,(GL.go (jem e f) b n).s⟩:=by rw[st];unfold GL.right;rw[if_pos heq]
   exact Q1X
  .have st2:(GL.go (jem e f) b (n+1))=⟨(GL.go (jem e f) b n).x,(GL.go (jem e f) b n).b,(GL.go (jem e f) b n).y,(GL.go (jem e f) b n).x+(GL.go (jem e f) b n).b-(GL.go (jem e f) b n).y,(GL.go (jem e f) b n).fy,je8 (jem e f) ((GL.go (jem e f) b n).x+(GL.go (jem e f) b n).b-(GL.go (jem e f) b n).y),(GL.go (jem e f) b n).s.ask (jem e f) ((GL.go (jem e f) b n).x+(GL.go (jem e f) b n).b-(GL.go (jem e f) b n).y)⟩:=by rw[st];unfold GL.right;rw[if_neg heq]
   have hr:0<=(GL.go (jem e f) b n).x+(GL.go (jem e f) b n).b-(GL.go (jem e f) b n).y/\(GL.go (jem e f) b n).x+(GL.go (jem e f) b n).b-(GL.go (jem e f) b n).y<=34:=by have:=gx1.2.1;rw[st2] at this;exact this
   repeat' (first|(refine Ba ?_;first|refine Q4Z ?_|refine Q6V ?_|refine Bb (qq8 e f ((GL.go (jem e f) b n).x+(GL.go (jem e f) b n).b-(GL.go (jem e f) b n).y) _ (GL.go (jem e f) b n).s w1 hr he hf 4 1 0 2 3 Q8I _ _ _ _ Q8F Q8F Q8F Q8F Q8F) ?_)|refine qah Q8F ?_)
   exact Q24):Z:=h
theorem Q0c(h:Z:=by
 rw[st,hO,hls];repeat' (refine Ba ?_;first|exact Be|refine Q57 ?_|refine Q6x ?_|refine Q5l ?_|refine Q6s ?_|refine Bc (reI Q9M) ?_|refine Bc joi ?_|refine Bc jii ?_|refine Bc jlr ?_|refine Q5W ?_|fail)):Z:=h
theorem Q0x(k:Y)(h:Wr Y->Z:=by
 intro kQ;repeat' (refine Ba ?_;first|refine Q4Z ?_|refine Q5i ?_|refine Q6U ?_|refine Bf (by rw[xj];exact hless) ?_|fail)
 refine Ba ?_;exact kQ.o):Z:=h ⟨k⟩
theorem Q0z(k:Y)(h:Wr Y->Z:=by
 intro kQ;repeat' (refine Ba ?_;first|refine Q4Z ?_|refine Q5i ?_|refine Q6U ?_|refine Bg (by rw[xh];exact hless) ?_|fail)
 refine Ba ?_;exact kQ.o):Z:=h ⟨k⟩
theorem Q0J(h:Z:=by repeat' (refine Ba ?_;first|refine Q4Z ?_|refine Q5d ?_|refine Q5x ?_|refine Bc xb ?_|exact Be|fail)):Z:=h
theorem Q13(h:Z:=by
 rw[st2];repeat (refine Ba ?_;first|exact Be|refine Q57 ?_|refine Q5y ?_|refine Bc (qau w1) ?_|refine Bc (ChunkLe.of Q8F) ?_)):Z:=h
theorem Q1a(h:Z:=by repeat' (refine Ba ?_;first|exact Be|refine Q57 ?_|refine Q6x ?_|refine Q5l ?_|refine Q6s ?_|refine Bc (jjb le1) ?_|refine Bc jii ?_|refine Bc jlr ?_|refine Q5W ?_|fail)):Z:=h
theorem Q1l(h:Z:=by
 repeat' (first|(refine Ba ?_;first|refine Q4Z ?_|refine Q60 ?_|refine Bg (by rw[hm];rfl) ?_)|refine qah Q8F ?_)
 refine Ba ?_;refine N.next n ⟨.inr ⟨rfl,hn5,hm⟩,by show(if 1=0 then _ else _)<(if 0=0 then _ else _);simp⟩ ?_;exact Q3Y):Z:=h
theorem Q1r(k:Y)(h:Wr Y->Z:=by
 intro kQ;refine qac (G:=tys) W tysOK mixed func173 Q8F Q8F Q8F ?_;exact kQ.o):Z:=h ⟨k⟩
theorem Q1D(h:Z:=by repeat (refine Ba ?_;first|exact Be|refine Q57 ?_|refine Q5y ?_|refine Bc (ChunkLe.of Q8F) ?_|refine Bc (qau Q8F) ?_)):Z:=h
theorem Q1E(h:Z:=by
 repeat' (refine Ba ?_;first|refine Q4Z ?_|refine Bi (λhb=>?_) (λhb=>?_)|fail)
 all_goals
  refine jfn ?_
  simp only[xh,xj,xz,false_iff,true_iff,iff_true,iff_false,reduceCtorEq,ya,xy,yb,xR] at *
  omega):Z:=h
theorem Q1I(h:Z:=by repeat' (first|(refine Ba ?_;first|refine Q4Z ?_|refine Bg (by rw[xh,jep _ Q8E Q8E];omega) ?_|refine Q5x ?_|refine Q5H ?_|exact Be|fail)|refine qah Q8F ?_)):Z:=h
theorem Q1W(h:Z:=by
 repeat' (first|(refine Ba ?_;first|refine Q4Z ?_|refine Q60 ?_|refine Bf (by rw[hm];rfl) ?_|refine Bf (by rw[w1,heq];simp) ?_)|refine qah Q8F ?_)
 exact Q3Q):Z:=h
theorem Q1X(h:Z:=by
 repeat' (first|(refine Ba ?_;first|refine Q4Z ?_|refine Bf (by rw[w1,heq];simp) ?_)|refine qah Q8F ?_)
 exact Q3R):Z:=h
theorem Q22(h:Z:=by exact Q3Q):Z:=h
theorem Q24(h:Z:=by exact Q3R):Z:=h
theorem Q25(h:Z:=by
 refine Ba ?_;refine qck T β 0 1 2 [] qcg (λi hi=>.inl Q8U) hβ Q8F Q8F Q8F Q8F Q8F Q8F Q8F Q8F Q8F Q8I (λk hk=>by cases hk) jg6 (qbt rfl) ?_;exact Q3c):Z:=h
theorem Q29(h:Z:=by
 rw[hF];repeat' (first|(refine Ba ?_;first|refine Q4Z ?_|refine Bg hem ?_|refine Q5x ?_|refine Bc xb ?_|exact Be|fail)|refine qah Q8F ?_)):Z:=h
theorem Q2d(k:Y)(h:Wr Y->Z:=by
 intro kQ;repeat' (refine Ba ?_;first|refine Q52 ?_|refine Q54 ?_|refine Q5M ?_|refine Q6j ?_|refine N.store _ (jlx C id boot i g _ hb Q8E) ?_|fail)
 refine Ba ?_;exact kQ.o):Z:=h ⟨k⟩
theorem Q2B(k:Y)(h:Wr Y->Z:=by
 intro kQ;repeat' (refine Ba ?_;first|refine Q4Z ?_|refine Q5i ?_|refine Q5e ?_|fail)
 exact kQ.o):Z:=h ⟨k⟩
theorem Q2W(k:Y)(h:Wr Y->Z:=by
 intro kQ;repeat' (refine Ba ?_;first|refine Q4Z ?_|refine Q5d ?_|fail)
 exact kQ.o):Z:=h ⟨k⟩
theorem Q3b(h:Z:=by
 refine Bk (α:=Nat) (k+1) [(0,0),(1,1),(2,2),(3,3),(4,4),(5,5),(6,6),(7,7),(12,12),(13,13),(14,14),(15,15),(16,16)] ⟨by show k+1<=3;omega,by show 3-(k+1)<3-k;omega⟩ ?_;exact Q0c):Z:=h
theorem Q3h(h:Z:=by
 refine Bk (α:=Nat) (k+1) [(0,0),(1,1),(2,2),(3,3),(4,4),(5,5),(6,6),(7,7),(12,12),(13,13),(14,14),(15,15)] ⟨by show k+1<=3;omega,by show 3-(k+1)<3-k;omega⟩ ?_;exact Q0c):Z:=h
theorem Q3i(h:Z:=by
 refine Bk (α:=Nat) (k+1) [(0,0),(1,1),(2,2),(3,3),(4,4),(5,5),(6,6),(11,11),(12,12),(13,13),(14,14)] ⟨by show k+1<=2;omega,by show 2-(k+1)<2-k;omega⟩ ?_;exact Q0c):Z:=h
theorem Q3t(h:Z:=by
 refine Bk (α:=Nat) (k+1) [(0,0),(1,1),(2,2),(3,3),(4,4),(5,5),(6,6),(7,7),(8,8),(9,9)] ⟨by show k+1<=2;omega,by show 2-(k+1)<2-k;omega⟩ ?_;exact Q0c):Z:=h
theorem Q3x(h:Z:=by
 .obtain rfl:k=3:=by omega
  rw[show((([e]++[X])++[f]).take 3).foldl lesser e=(([e]++[X])++[f]).foldl lesser e from qi6 (([e]++[X])++[f]) e];exact Q0J):Z:=h
theorem Q3y(k:Y)(h:Wr Y->Z:=by
 intro kQ;refine qac (G:=tys) W tysOK mixed func199 Q8F Q8F Q8F ?_;exact kQ.o):Z:=h ⟨k⟩
theorem Q3G(h:Z:=by
 refine Bk (α:=Nat) (k+1) [(0,0),(1,1),(2,2),(3,3),(4,4),(5,5),(6,6),(7,7)] ⟨by show k+1<=1;omega,by show 1-(k+1)<1-k;omega⟩ ?_;exact Q0c):Z:=h
theorem Q3O(h:Z:=by
 rw[List.take_add_one,xt h,Option.toList_some,List.foldl_append,xT,xt h];rfl):Z:=h
theorem Q3Q(h:Z:=by
 refine Ba ?_;refine N.next (n+1) ⟨.inl ⟨rfl,by omega⟩,by show(if 0=0 then _ else _)<(if 0=0 then _ else _);simp;omega⟩ ?_;exact Q13):Z:=h
theorem Q3R(h:Z:=by
 refine Ba ?_;refine N.next (n+1) ⟨.inl ⟨rfl,by omega⟩,by show(if 0=0 then _ else _)<(if 1=0 then _ else _);simp;omega⟩ ?_;exact Q13):Z:=h
theorem Q52(k:Y)(h:Wr Y->Z:=by intro kQ;(first|with_reducible (first|refine Bc Q8I ?_|refine Bc (qab _ _ _) ?_|refine Bc (qaa _ _) ?_|refine N.eq ?_|refine Bc rfl ?_|refine Bc ⟨by kernel_rfl,by kernel_rfl⟩ ?_)|fail);exact kQ.o):Z:=h ⟨k⟩
theorem Q54(k:Y)(h:Wr Y->Z:=by intro kQ;(first|with_reducible (first|refine Bw ?_|refine Bx ?_)|fail);exact kQ.o):Z:=h ⟨k⟩
theorem Q5h(k:Y)(h:Wr Y->Z:=by intro kQ;(first|refine Bb (cEMay _ _ _ _ _ _) ?_|refine Bb (jom _ _ _) ?_|refine Bf (ndF he) ?_|refine Bf (ndF hn) ?_|refine Bf (ndF hd) ?_|fail);exact kQ.o):Z:=h ⟨k⟩
theorem Q5p(k:Y)(h:Wr Y->Z:=by intro kQ;(first|refine Br _ (quv _ _ _ _ _ _) ?_|refine Bb (jhx n _) ?_|refine Bb (qgs e (e.x-n.x) (e.y-n.y) _ _ _ w1 w2 he ew) ?_|refine Bb (qgs e (-(e.y-n.y)) (e.x-n.x) _ _ _ (by rw[w2];exact w3) w1 he ew2) ?_|refine Bb (quz ((e.x-n.x)*(e.x-n.x)+(e.y-n.y)*(e.y-n.y)) _ _ (max 0 (lo-n.rad)) (hi+n.rad) _ _ _ _ (by rw[w1,w2];exact w4) (by rw[w5]) w6 Q8E b1 b2 Q8E Q8E) ?_|with_reducible (first|refine N.max2 ?_|refine N.max3 ?_)|fail);exact kQ.o):Z:=h ⟨k⟩
theorem Q5u(k:Y)(h:Wr Y->Z:=by intro kQ;(first|refine Bj 1 0 Q8I Q8I ?_|refine Bj 2 0 Q8I Q8I ?_|fail);exact kQ.o):Z:=h ⟨k⟩
theorem Q5w(k:Y)(h:Wr Y->Z:=by intro kQ;(first|refine Bf (by rw[hc];rfl) ?_|refine Bg (by rw[hc];rfl) ?_|refine Bf Q8F ?_|refine Bg Q8F ?_|fail);exact kQ.o):Z:=h ⟨k⟩
theorem Q5B(k:Y)(h:Wr Y->Z:=by intro kQ;(first|refine Bg h1 ?_|refine Bf h1 ?_|refine Bg Q9W ?_|refine Bf Q9W ?_|refine Bg (by rw[xh];assumption) ?_|refine Bf (by rw[xj];assumption) ?_|refine Bg (by rw[yk];assumption) ?_|refine Bf (by rw[beq_eq_false_iff_ne];assumption) ?_|refine Bc (.plain Q8F) ?_|refine Bc ⟨⟨_,rfl,id,nlr _,g4 (.func xb ⟨.ptr rfl,.ptr rfl,xb⟩) (by first|exact .plain rfl|exact jqu (by rw[hs'])|(rw[hs'];exact .plain rfl)) (by rw[hs'];exact .plain rfl) (by rw[hs'];exact .plain rfl)⟩,⟨_,rfl,id,nlr _,g1 (by rw[hemp];exact .plain rfl)⟩,xb⟩ ?_|refine Bc xb ?_|fail);exact kQ.o):Z:=h ⟨k⟩
theorem Q5E(k:Y)(h:Wr Y->Z:=by intro kQ;(first|refine Bb (jhs (h'*m*m) (k*k) _ ((bh.mul bm).mul bm).top (bk.mul bk).top bl.top) ?_|refine Bb (jht (h'*m*m-k*k) _ bl.top) ?_|refine Bb (qz8 (h'*m*m-k*k) _ Q8E (bl.le Q8I)) ?_|refine Bb (jqw (h'*far*far) _ hu0 bu) ?_|with_reducible (first|refine N.max2 ?_|refine N.min2 ?_)|fail);exact kQ.o):Z:=h ⟨k⟩
theorem Q5F(k:Y)(h:Wr Y->Z:=by intro kQ;(first|refine Bf (by rw[hf];rfl) ?_|refine Bg (by rw[hf];rfl) ?_|refine Bb (jlu (jes e (jez n.x n.y (hi+n.rad))).1 n lo hi _ hfm hn hd) ?_|fail);exact kQ.o):Z:=h ⟨k⟩
theorem Q5I(k:Y)(h:Wr Y->Z:=by intro kQ;(first|refine Bb (jhx n _) ?_|refine Bb (qh5 n.x n.y (hi+n.rad) _ _ w6 hn2.1 hb) ?_|refine Bb (qi7 e (jez n.x n.y (hi+n.rad)) _ he hbm) ?_|fail);exact kQ.o):Z:=h ⟨k⟩
theorem Q5Q(k:Y)(h:Wr Y->Z:=by intro kQ;(first|refine Bb (cOfz 1 _ Q8I Q8I) ?_|refine Bb (cOfz x _ Q8E Q8E) ?_|refine Bb (cOfz y _ Q8E Q8E) ?_|fail);exact kQ.o):Z:=h ⟨k⟩
theorem Q5W(k:Y)(h:Wr Y->Z:=by intro kQ;(first|refine Bc jqv ?_|refine Bc (jii (e:=El.o)) ?_|refine Bc ⟨id,nlr _,g1 (.func xb ⟨.ptr rfl,.ptr rfl,xb⟩)⟩ ?_|fail);exact kQ.o):Z:=h ⟨k⟩
theorem Q60(k:Y)(h:Wr Y->Z:=by intro kQ;(first|refine Bf (by rw[xj,jep _ Q8E Q8E];omega) ?_|refine Bb (jki _ _ _) ?_|fail);exact kQ.o):Z:=h ⟨k⟩
theorem Q61(k:Y)(h:Wr Y->Z:=by intro kQ;(first|refine Bg Q8F ?_|refine Bj 0 0 rfl Q8I ?_|refine Br _ (q55 _ _ _ _ _ _ _ _ _ _ _ _) ?_|refine Bb (qli 0 0 8 _ Q8I Q8I) ?_|refine Bb (qlt 3 3 5 1 4 4 _) ?_|refine Bb (qls _ (qm3 3 3 5 1 4 4) 2 7 Q8I Q8I 0 0 64 0 64 Q8I Q8I 2 _ Q8F) ?_|fail);exact kQ.o):Z:=h ⟨k⟩
theorem Q6c(k:Y)(h:Wr Y->Z:=by intro kQ;(first|refine Bb (jhx n _) ?_|refine Bb (qlu n.x n.y (hi+n.rad) _ _ w6 hb) ?_|fail);exact kQ.o):Z:=h ⟨k⟩
theorem Q6h(k:Y)(h:Wr Y->Z:=by intro kQ;(first|refine Bb (qm2 h' m m 0 _ _ Q8E Q8E Q8E Q8F) ?_|refine Bb (qz7 k k 5 _ _ Q8E Q8E Q8F) ?_|fail);exact kQ.o):Z:=h ⟨k⟩
theorem Q6r(k:Y)(h:Wr Y->Z:=by intro kQ;(first|refine Bb (jok x _ bx) ?_|refine Bb (cMulz x y _ bx.b16 bY.b16 bp.top) ?_|fail);exact kQ.o):Z:=h ⟨k⟩
theorem Q6x(k:Y)(h:Wr Y->Z:=by intro kQ;(first|refine Bc (.one (.func xb ⟨.ptr rfl,.ptr rfl,xb⟩)) ?_|fail);exact kQ.o):Z:=h ⟨k⟩
theorem Q6L(k:Y)(h:Wr Y->Z:=by intro kQ;(first|refine Bb (jlu e n lo hi _ he hn hd) ?_|fail);exact kQ.o):Z:=h ⟨k⟩
theorem Q6N(k:Y)(h:Wr Y->Z:=by intro kQ;(first|refine Bf (by rw[hc];rfl) ?_|refine Bg (by rw[hc];rfl) ?_|refine Bf (by rw[hk];rfl) ?_|refine Bg (by rw[hk];rfl) ?_|fail);exact kQ.o):Z:=h ⟨k⟩
theorem Q6U(k:Y)(h:Wr Y->Z:=by intro kQ;(first|refine Bj k 1 rfl Q8E ?_|refine Bl _ (joh (j:=k) Q8E rfl rfl) ?_|refine Bb (qey _ _ _ _ _ _) ?_|fail);exact kQ.o):Z:=h ⟨k⟩
theorem Q6V(k:Y)(h:Wr Y->Z:=by intro kQ;(first|refine Bg (by rw[w1];simpa using heq) ?_|fail);exact kQ.o):Z:=h ⟨k⟩
theorem Q7l(h:Z:=by first|exact ⟨λh=>Q94,nlr _,g1 (.func xb ⟨.ptr rfl,.ptr rfl,xb⟩)⟩|fail):Z:=h
theorem Q7E(h:Z:=by first|exact ⟨rfl,rfl,rfl,λw=>by go_simp;by_cases h1:a=p<;>by_cases h2:b=q<;>by_cases h3:c=r<;>by_cases h4:d=s<;>by_cases h5:e=t<;>simp[h1,h2,h3,h4,h5]⟩|fail):Z:=h
theorem Q86(h:Z:=by first|exact ⟨.plain rfl,.ptr rfl,.ptr rfl,xb⟩|fail):Z:=h
theorem Q8d(h:Z:=by first|exact ⟨⟨.inl rfl,.inr ⟨_,rfl,rfl⟩,.inl rfl,.inr ⟨_,rfl,rfl⟩,.inl rfl,.inl rfl,xb⟩,xb⟩|fail):Z:=h
theorem Q8k(h:Z:=by first|exact ⟨λh=>⟨rfl,nlr _⟩,nlr _,g4 (.func xb Q7y) (.plain rfl) (.plain rfl) (.plain rfl)⟩|fail):Z:=h
theorem Q8r(h:Z:=by first|exact .inr ⟨rfl,by decide,by have:=hb;simp only[y8] at this;exact this⟩|fail):Z:=h
theorem Q8B(h:Z:=by first|exact λρ ρ' ha=>by have:=ha 6 ⟨_,rfl⟩;simp[den,den2,den1,den0,jfd,this]|fail):Z:=h
theorem Q9b(h:Z:=by simp[Apart,hij]):Z:=h
theorem Q9i(h:Z:=by rw[if_neg Q8E];rfl):Z:=h
theorem Q9s(h:Z:=by simp[Apart];omega):Z:=h
theorem Q9N(h:Z:=by have:=hb;simp only[zw] at this;exact this):Z:=h
theorem Q9P(h:Z:=by rw[xf ht];rfl):Z:=h
theorem Q9W(h:Z:=by rw[h2];rfl):Z:=h
end
end Go.Proofs

namespace Go.Proofs.YtfkngpmgcimdbaaGreat
open Go Go.RowKit Sx
abbrev elC(o:Bool)(e:El):Chunk:=⟨o,5,[(0,5,elE e)]⟩
abbrev stC(o:Bool)(s:Strip):Chunk:=⟨o,6,[(0,6,stV s)]⟩
abbrev bC(b:Bool):Chunk:=⟨true,1,[(0,1,.bool b)]⟩
abbrev pt2(i j:Nat):Array Value:=#[xd i,xd j]
abbrev seC(o:Bool)(k m:Nat)(s:GS):Chunk:=⟨o,4,[(0,4,.agg #[.func (.func 190) #[] (pt2 k m),xc s.w,xc s.best.n,.bool s.best.ok])]⟩
variable{ix:List (Nat×Nat)}{m:Nat}
theorem el_re{w:Bool}(e:El):((elC false e).own=true->(elC w e).own=true/\m<=(elC w e).n)/\(elC false e).n<=(elC w e).n/\qbh ix (elC w e) (elC false e):=qin (qam rfl rfl)
theorem st_re{w:Bool}(e:Strip):((stC false e).own=true->(stC w e).own=true/\m<=(stC w e).n)/\(stC false e).n<=(stC w e).n/\qbh ix (stC w e) (stC false e):=qin (qam rfl rfl)
theorem b_re(hm:m<=1)(b:Bool):((bC b).own=true->(bC b).own=true/\m<=(bC b).n)/\(bC b).n<=(bC b).n/\qbh ix (bC b) (bC b):=⟨λ_=>⟨rfl,hm⟩,nlr _,g1 (.plain rfl)⟩
theorem g4{p:Nat->Prop}(h0:p 0)(h1:p 1)(h2:p 2)(h3:p 3):∀j,j<4->p j:=λj hj=>by
 match j,hj with
 | 0,_=>exact h0
 | 1,_=>exact h1
 | 2,_=>exact h2
 | 3,_=>exact h3
variable{k:IntKind}
theorem jqu{a b:Int}(h:a=b):Re1 ix (.int k a) (.int k b):=by subst h;exact .plain rfl
theorem qd6(b:Bool):b=false\/b=true:=by cases b<;>simp
def qq5(e:El):Nat->Int
 | 0=>e.x
 | 1=>e.y
 | 2=>e.a
 | 3=>e.b
 | _=>e.d
def jf3(L:List El)(k:Nat):Int:=qq5 (L.getD (k / 5) El.o) (k%5)
abbrev rwE(cap:Nat)(L:List El):Chunk:=⟨true,cap*5,[(0,cap*5,.agg ⟨segL (cap*5) λk=>xc (jf3 L k)⟩)]⟩
variable{cap:Nat}{L:List El}
theorem qgq{k:Nat}(h:k<cap*5):(rwE cap L).f k=xc (jf3 L k):=by
 refine Q3o ?_;exact qic h
theorem ji9(e:El)(i:Nat)(h:i<5):cellIn (elE e) i=xc (qq5 e i):=by
 match i,h with
 | 0,_=>rfl
 | 1,_=>rfl
 | 2,_=>rfl
 | 3,_=>rfl
 | 4,_=>rfl
theorem q3r(L:List El)(j i:Nat)(h:i<5):jf3 L (j*5+i)=qq5 (L.getD j El.o) i:=by
 unfold jf3;rw[show(j*5+i) / 5=j by omega,show(j*5+i)%5=i by omega]
variable{e:El}
theorem joh{j p:Nat}(h:j<cap)(he:L.getD j El.o=e)(hp:p=j*5):Reads (rwE cap L) p true 5 (elE e):=by
 subst hp he;refine⟨by show j*5+5<=cap*5;omega,_,rfl,rfl,λi hi=>?_⟩;rw[qgq Q8E,q3r _ _ _ hi];exact(ji9 _ i hi).symm
theorem q3s(L:List El)(x:El)(j:Nat):(L++[x]).getD j El.o=if j=L.length then x else L.getD j El.o:=by
 rw[xT,xT,List.getElem?_append];by_cases h:j<L.length
 .rw[if_pos h,if_neg Q8E]
 .rw[if_neg h];by_cases e:j=L.length
  .subst e;simp
  .rw[if_neg e,List.getElem?_eq_none Q9h,List.getElem?_eq_none Q8E]
theorem qq6(L:List El)(x:El)(k:Nat):jf3 (L++[x]) k=if k / 5=L.length then qq5 x (k%5) else jf3 L k:=by
 unfold jf3;rw[q3s];split<;>rfl
variable{ci:Chunk}
theorem jja{k:Nat}{x:El}{z:Value}(hk:k=L.length)(hz:z=elE El.o)(hc:∀j,j<L.length*5->ci.f j=xc (jf3 L j))(h:L.length+1<=cap):ChunkLe (rwE cap (L++[x])) (grown ci k 1 5 (elE x) z cap):=by
 subst hz hk;refine ChunkLe.mk (λ_=>rfl) (nlr _) (λj hj=>?_);have hj:j<cap*5:=hj;rw[qgq hj,qq6];by_cases h1:j<L.length*5
 .rw[if_neg Q8E,qid h1,hc j h1]
 .by_cases h2:j<(L.length+1)*5
  .rw[if_pos Q8E];have:=qie (ci:=ci) (l:=L.length) (m:=1) (size:=5) (cap:=cap) (v:=elE x) (z:=elE El.o) (j:=j%5) Q8E;rw[show L.length*5+j%5=j by omega] at this;rw[this,ji9 _ _ Q8E]
  .rw[if_neg Q8E,qg3 Q8E hj];have e5:∀i,i<5->(xc (qq5 El.o i))=(qdi (elE El.o)).getD i undef:=λi hi=>by
    match i,hi with
    | 0,_=>rfl
    | 1,_=>rfl
    | 2,_=>rfl
    | 3,_=>rfl
    | 4,_=>rfl
   unfold jf3 jfj;rw[xT,List.getElem?_eq_none Q8E];exact e5 _ Q8E
theorem quw{o:Bool}(e:El):∀j,j<1*5->(elC o e).f j=xc (jf3 [e] j):=λj hj=>by
 have:=ji9 e j Q8E;show qbf _ _=_;rw[qar,if_pos Q8E,show j-0=j from rfl,this];unfold jf3;rw[show j / 5=0 by omega,show j%5=j by omega];rfl
theorem jct(e:El):ChunkLe (rwE 1 [e]) (elC true e):=ChunkLe.mk (λ_=>rfl) (nlr _) (λj hj=>by
 have hj:j<1*5:=hj;rw[qgq hj,quw e j hj])
abbrev gvC(v:GV):Chunk:=⟨true,2,[(0,2,.agg #[xc v.n,.bool v.ok])]⟩
theorem qkk:∀n,n<6->2<(gwide n).1:=by decide
theorem jhb(of:Int->El×Int)(e:Bool)(n:Nat)(h:n<=6):(0<=(GL.go of e n).x/\(GL.go of e n).x<=34)/\(0<=(GL.go of e n).y/\(GL.go of e n).y<=34)/\(0<=(GL.go of e n).b/\(GL.go of e n).b<=34)/\(0<=(GL.go of e n).a/\(GL.go of e n).a<=34):=by
 obtain⟨h1,h2,h3,h4,h5⟩:=qdz of e n h;have hn:n=0\/n=1\/n=2\/n=3\/n=4\/n=5\/n=6:=by omega
 rcases hn with rfl|rfl|rfl|rfl|rfl|rfl|rfl<;>simp only[gwide] at h1 h2 h3<;>omega
theorem ask_w{of:Int->El×Int}{s:GS}{w:Int}(h:0<=s.w/\s.w<=34)(hw:0<=w/\w<=34):0<=(s.ask of w).w/\(s.ask of w).w<=34:=by
 unfold GS.ask;split
 .exact hw
 .exact h
theorem jp3(of:Int->El×Int)(e:Bool):∀n,n<=6->0<=(GL.go of e n).s.w/\(GL.go of e n).s.w<=34:=by
 intro n
 induction n with
 | zero=>exact λ_=>ask_w (ask_w ⟨Int.le_refl 0,(by decide:(0:Int)<=34)⟩ Q8I) Q8I
 | succ n ih=>
  intro h;have ih:=ih Q8E;have hx:=jhb of e (n+1) h;have st:GL.go of e (n+1)=(GL.go of e n).step of:=rfl;rw[st] at hx ⊢;generalize GL.go of e n=l at *;unfold GL.step GL.left GL.right at *;split<;>split
  .exact ih
  .rename_i h1 h2;rw[if_pos h1,if_neg h2] at hx;exact ask_w ih hx.1
  .exact ih
  .rename_i h1 h2;rw[if_neg h1,if_neg h2] at hx;exact ask_w ih hx.2.1
variable{K:Value->Mz->Prop}
theorem qux{k s l c:Nat}{cj:Chunk}{g size bytes:Nat}{z:Value}{slot:Nat}(v:Value)(hr:Reads cj g true (m*size) v)(hf:flatB v (m*size)=true)(hl:l*size<=ci.n)(h1:l+m<=9223372036854775807)(h2:(l+m)*bytes<=140737488355328)
  (d:Chunk) (hw:l+m<=c->Writes ci (l*size) (m*size) v d) (k1:l+m<=c->K (.slice (some ⟨k,0,some s⟩) (l+m) c) [(k,d)]) (k2:c<l+m->∀cap,l+m<=cap->K (.slice (some ⟨slot,0,some 0⟩) (l+m) cap) [(slot,grown ci l m size v z cap)]):N (jmg ci k s l c cj g m size bytes z slot K):=
 N.mk ⟨v,hr,hf,hl,h1,h2,λh=>⟨d,hw h,k1 h⟩,k2⟩
theorem reI{a b:Int}(h:a=b):Re ix (.int k a) (.int k b):=by subst h;exact .plain rfl
theorem joi:ChunkReLe ix (rwE cap L) (rwE cap L):=⟨id,nlr _,λj hj=>by rw[qgq hj];exact .plain rfl⟩
variable{n:Nat}
theorem jjb{o:Bool}{ps:Pz}(h:ChunkLe (rwE cap L) ⟨o,n,ps⟩):ChunkReLe ix (rwE cap L) ⟨o,n,ps⟩:=⟨h.1,h.2.1,λj hj=>by rw[<-h.2.2.1 j hj,qgq hj];exact .plain rfl⟩
theorem jii{o:Bool}:ChunkReLe ix (elC o e) (elC o e):=⟨id,nlr _,λj hj=>(el_re (m:=0) (w:=o) e).2.2 j hj⟩
theorem jlr{o:Bool}{e:Strip}:ChunkReLe ix (stC o e) (stC o e):=⟨id,nlr _,λj hj=>(st_re (m:=0) (w:=o) e).2.2 j hj⟩
theorem jqv{b:Bool}:ChunkReLe ix (bC b) (bC b):=⟨id,nlr _,g1 (.plain rfl)⟩
theorem jjc{o:Bool}(e:El)(hm:m=5):Reads (elC o e) 0 true m (elE e):=by
 subst hm;refine⟨nlr _,_,rfl,rfl,λi hi=>?_⟩;show qbf _ _=_;rw[qar,if_pos Q8E,show 0+i-0=i by omega];rfl
theorem joj{p:Nat}{x:El}(ho:ci.own=true)(hx:ci.x=Ext.none)(hn:ci.n=cap*5)(hle:ChunkLe (rwE cap L) ci)(h:L.length<cap)(hp:p=L.length*5):Writes ci p 5 (elE x) (rwE cap (L++[x])):=by
 subst hp;refine⟨ho,by rw[hn];omega,by show(cap*5,Ext.none)=_;rw[hn,hx],λj hj=>?_⟩;rw[hn] at hj;have hc:=(hle.2.2.1 j hj).symm;rw[qgq hj] at hc;rw[qgq hj,qq6];by_cases e:j / 5=L.length
 .rw[if_pos e,if_pos Q8E,ji9 _ _ Q8E,show j-L.length*5=j%5 by omega]
 .rw[if_neg e,if_neg Q8E,hc]
theorem q3t(hle:ChunkLe (rwE cap L) ci)(h:L.length<=cap):∀j,j<L.length*5->ci.f j=xc (jf3 L j):=λj hj=>by
 have hj2:j<cap*5:=xl hj (xV _ h);have:=hle.2.2.1 j hj2;rw[qgq hj2] at this;exact this.symm
theorem qgr(L:List El)(e:El)(k:Nat)(h:k<L.length):(L.take (k+1)).foldl lesser e=lesser ((L.take k).foldl lesser e) (L.getD k El.o):=Q3O
theorem qi6(L:List El)(e:El):(L.take L.length).foldl lesser e=L.foldl lesser e:=by rw[List.take_length]
abbrev gvV(v:GV):Value:=.agg #[xc v.n,.bool v.ok]
theorem jcu(v w:GV)(W:World):xa 208 #[gvV v,gvV w] W (.bool (v.most w)):=by
 obtain⟨n,a⟩:=v;obtain⟨m,b⟩:=w;unfold GV.most;refine qac (G:=tys) W tysOK mixed func208 Q8F Q8F Q8F ?_;cases a<;>cases b
 all_goals
  repeat' (first|(refine Ba ?_;first|refine Q4Z ?_|refine Bg rfl ?_|refine Bf rfl ?_|fail)|refine qah Q8F ?_)
 all_goals rfl
theorem jki(v w:GV)(h:Hp):qae prog 208 [gvV v,gvV w] h (.bool (v.most w)) [] []:=
 qai rfl rfl (call208 _) (jcu v w)
theorem jls{p:Prop}[Decidable p](h:p):(!decide p)=false:=by rw[xf h];rfl
abbrev jkj(o:Bool)(i j:Nat):Chunk:=⟨o,1,[(0,1,.func (.func 166) #[] (pt2 i j))]⟩
abbrev jp4(i j:Nat):Value:=.func (.func 166) #[] (pt2 i j)
theorem cWF(e:El)(f:El)(w:Int)(hw:0<=w/\w<=34)(he:e.may)(hf:f.may)(i j:Nat)(hij:i≠j)(o1 o2:Bool)(h:Hp)(hi:h[i]?=some (some (elC o1 e)))(hj:h[j]?=some (some (elC o2 f))):
  qae prog 166 [xc w,xd i,xd j] h (.tuple #[elE (jel e f w).1,xc (jel e f w).2]) [] [i,j]:=by
 refine qak (G:=tys) [⟨i,_,elC false e,⟨false,0,[]⟩⟩,⟨j,_,elC false f,⟨false,0,[]⟩⟩] [] [xc w,xd 0,xd 1] tysOK mixed func166 Q8F (call166) ⟨hi,hj,xb⟩ ⟨el_re _,el_re _,xb⟩ Q9b xb Q86 ?_
 repeat' (first|(refine Ba ?_;first|refine Q4Z ?_|refine Bb (jcr e f w _ hw he hf) ?_|refine Q5x ?_|refine Bc xb ?_|exact Be|fail)|refine qah Q8F ?_)
theorem cQF(e:El)(f:El)(w:Int)(b:Bool)(hw:0<=w/\w<=34)(he:e.may)(hf:f.may)(k m i j:Nat)(hne:[k,m,i,j].Nodup)(o1 o2 o3:Bool)(h:Hp)(hk:h[k]?=some (some (jkj o3 i j)))(hm:h[m]?=some (some (bC b)))(hi:h[i]?=some (some (elC o1 e)))(hj:h[j]?=some (some (elC o2 f))):
  qae prog 190 [xc w,xd k,xd m] h (.tuple #[xc (je8 (jel e f) w).n,.bool (je8 (jel e f) w).ok]) [(m,bC (b||decide ((jel e f w).2=3)))] [k,i,j]:=by
 simp only[xH,xi,xD,or_false,not_or,xy,yy,and_true] at hne
 refine qak (G:=tys) [⟨m,_,bC b,bC (b||decide ((jel e f w).2=3))⟩,⟨k,_,jkj false 2 3,⟨false,0,[]⟩⟩,⟨i,_,elC false e,⟨false,0,[]⟩⟩,⟨j,_,elC false f,⟨false,0,[]⟩⟩] [] [xc w,xd 1,xd 0] tysOK mixed func190 Q8F (call190) ⟨hm,hk,hi,hj,xb⟩ ⟨b_re (nlr _) _,Q7l,el_re _,el_re _,xb⟩ Q9s xb Q86 ?_
 cases b
 all_goals
  repeat' (first|(refine Ba ?_;first|refine Q4Z ?_|refine Bb (cWF e f w hw he hf 2 3 Q8I _ _ _ Q8F Q8F) ?_|refine Bb (qey _ _ _ _ _ _) ?_|refine Bg Q8F ?_|refine Q5x ?_|refine Q5H ?_|exact Be|fail)|refine qah Q8F ?_)
theorem jkk(e:El)(f:El)(w:Int)(s:GS)(hw:0<=w/\w<=34)(he:e.may)(hf:f.may)(a k m i j:Nat)(hne:[a,k,m,i,j].Nodup)(o1 o2 o3:Bool)(h:Hp)(ha:h[a]?=some (some (seC true k m s)))(hk:h[k]?=some (some (jkj o3 i j)))(hm:h[m]?=some (some (bC s.emp)))(hi:h[i]?=some (some (elC o1 e)))(hj:h[j]?=some (some (elC o2 f))):
  qae prog 207 [xd a,xc w] h (.agg #[xc (je8 (jel e f) w).n,.bool (je8 (jel e f) w).ok]) [(a,seC true k m (s.ask (jel e f) w)),(m,bC (s.ask (jel e f) w).emp)] [k,i,j]:=by
 simp only[xH,xi,xD,or_false,not_or,xy,yy,and_true] at hne
 have hemp:(s.ask (jel e f) w).emp=(s.emp||decide ((jel e f w).2=3)):=by unfold GS.ask;split<;>rfl
 rcases qd6 (je8 (jel e f) w).ok with h1|h1
 .skip;have hs':s.ask (jel e f) w=⟨s.w,s.best,s.emp||decide ((jel e f w).2=3)⟩:=by unfold GS.ask;exact if_neg (by simp[h1])
  exact Q05
 .rcases qd6 s.best.ok with h2|h2
  .skip;have hs':s.ask (jel e f) w=⟨w,je8 (jel e f) w,s.emp||decide ((jel e f w).2=3)⟩:=by unfold GS.ask;exact if_pos (by simp[h1,h2])
   exact Q05
  .by_cases h3:(je8 (jel e f) w).n<s.best.n
   .skip;have hs':s.ask (jel e f) w=⟨w,je8 (jel e f) w,s.emp||decide ((jel e f w).2=3)⟩:=by unfold GS.ask;exact if_pos (by simp[h1,h2,h3])
    exact Q05
   .by_cases h4:(je8 (jel e f) w).n=s.best.n
    .by_cases h5:w<s.w
     .skip;have hs':s.ask (jel e f) w=⟨w,je8 (jel e f) w,s.emp||decide ((jel e f w).2=3)⟩:=by unfold GS.ask;exact if_pos (by simp[h1,h2,h4,h5])
      exact Q05
     .skip;have hs':s.ask (jel e f) w=⟨s.w,s.best,s.emp||decide ((jel e f w).2=3)⟩:=by unfold GS.ask;exact if_neg (by simp[h1,h2,h3,h5])
      exact Q05
    .skip;have hs':s.ask (jel e f) w=⟨s.w,s.best,s.emp||decide ((jel e f w).2=3)⟩:=by unfold GS.ask;exact if_neg (by simp[h1,h2,h3,h4])
     exact Q05
theorem qq7(e:El)(f:El)(w w':Int)(s:GS)(hww:w'=w)(hw:0<=w/\w<=34)(he:e.may)(hf:f.may)(a k m i j:Nat)(hne:[a,k,m,i,j].Nodup)(o1 o2 o3:Bool)(h:Hp)(ha:h[a]?=some (some (seC true k m s)))(hk:h[k]?=some (some (jkj o3 i j)))(hm:h[m]?=some (some (bC s.emp)))(hi:h[i]?=some (some (elC o1 e)))(hj:h[j]?=some (some (elC o2 f))):
  qae prog 207 [xd a,xc w'] h (.agg #[xc (je8 (jel e f) w).n,.bool (je8 (jel e f) w).ok]) [(a,seC true k m (s.ask (jel e f) w)),(m,bC (s.ask (jel e f) w).emp)] [k,i,j]:=by
 subst hww
 exact jkk e f w' s hw he hf a k m i j hne o1 o2 o3 h ha hk hm hi hj
theorem jcv(e:El)(f:El)(b:Bool)(he:e.may)(hf:f.may)(k m i j:Nat)(hne:[k,m,i,j].Nodup)(o1 o2 o3:Bool)(h:Hp)(hk:h[k]?=some (some (jkj o3 i j)))(hm:h[m]?=some (some (bC b)))(hi:h[i]?=some (some (elC o1 e)))(hj:h[j]?=some (some (elC o2 f))):
  qae prog 189 [.func (.func 190) #[] (pt2 k m)] h (.tuple #[xc (GL.go (jel e f) b 6).s.w,xc (GL.go (jel e f) b 6).s.best.n,.bool (GL.go (jel e f) b 6).s.best.ok]) [(m,bC (GL.go (jel e f) b 6).s.emp)] [k,i,j]:=by
 simp only[xH,xi,xD,or_false,not_or,xy,yy,and_true] at hne
 refine qak (G:=tys) [⟨m,_,bC b,bC (GL.go (jel e f) b 6).s.emp⟩,⟨k,_,jkj false 2 3,⟨false,0,[]⟩⟩,⟨i,_,elC false e,⟨false,0,[]⟩⟩,⟨j,_,elC false f,⟨false,0,[]⟩⟩] [] [.func (.func 190) #[] (pt2 1 0)] tysOK mixed func189 Q8F (call189) ⟨hm,hk,hi,hj,xb⟩ ⟨b_re (nlr _) _,Q7l,el_re _,el_re _,xb⟩ Q9s xb ⟨.func xb Q7y,xb⟩ ?_
 repeat' (first|(refine Ba ?_;first|refine Q4Z ?_|refine Bb (jkk e f 13 ⟨0,⟨0,false⟩,b⟩ Q8I he hf 4 1 0 2 3 Q8I _ _ _ _ Q8F Q8F Q8F Q8F Q8F) ?_|refine Bb (jkk e f 21 (GS.ask (jel e f) ⟨0,⟨0,false⟩,b⟩ 13) Q8I he hf 4 1 0 2 3 Q8I _ _ _ _ Q8F Q8F Q8F Q8F Q8F) ?_|refine Q5d ?_|refine Bb (jki (je8 (jel e f) 13) (je8 (jel e f) 21) _) ?_|refine Q5m ?_|refine Bi (λhb=>?_) (λhb=>?_)|refine Bb (qq7 e f 8 _ (GS.first (jel e f) b) Q8I Q8I he hf 4 1 0 2 3 Q8I _ _ _ _ Q8F Q8F Q8F Q8F Q8F) ?_)|refine qah Q8F ?_)
 .refine Ba ?_;refine N.jumps tysOK mixed (α:=Nat) (λl n=>(l=0/\n<=6)\/(l=1/\n<6/\(GL.go (jel e f) b n).fx.most (GL.go (jel e f) b n).fy=false)) (λl n=>if l=0 then 2*(6-n)+1 else 2*(6-n)) (λ_ n=>[(5,xd 4),(6,xc (GL.go (jel e f) b n).a),(7,xc (GL.go (jel e f) b n).b),(8,xc (GL.go (jel e f) b n).x),(9,xc (GL.go (jel e f) b n).y),(10,xd 13),(11,xd 14)]) (λ_ n=>[(0,bC (GL.go (jel e f) b n).s.emp),(4,seC true 1 0 (GL.go (jel e f) b n).s),(13,gvC (GL.go (jel e f) b n).fx),(14,gvC (GL.go (jel e f) b n).fy)]) 0 Q8r ?_ ?_
  .exact Q1D
  exact Q07
 .refine Ba ?_;refine N.jumps tysOK mixed (α:=Nat) (λl n=>(l=0/\n<=6)\/(l=1/\n<6/\(GL.go (jel e f) b n).fx.most (GL.go (jel e f) b n).fy=false)) (λl n=>if l=0 then 2*(6-n)+1 else 2*(6-n)) (λ_ n=>[(5,xd 4),(6,xc (GL.go (jel e f) b n).a),(7,xc (GL.go (jel e f) b n).b),(8,xc (GL.go (jel e f) b n).x),(9,xc (GL.go (jel e f) b n).y),(10,xd 13),(11,xd 14)]) (λ_ n=>[(0,bC (GL.go (jel e f) b n).s.emp),(4,seC true 1 0 (GL.go (jel e f) b n).s),(13,gvC (GL.go (jel e f) b n).fx),(14,gvC (GL.go (jel e f) b n).fy)]) 1 (.inl ⟨rfl,by decide⟩) ?_ ?_
  .rw[show GL.go (jel e f) b 1=(GL.start (jel e f) b).left (jel e f) from if_pos Q9N];exact Q1D
  exact Q07
theorem q8r(e:El)(f:El)(he:e.may)(hf:f.may)(i j:Nat)(q:Nat)(o4:Bool)(hne:[i,j,q].Nodup)(o1 o2:Bool)(h:Hp)(hi:h[i]?=some (some (elC o1 e)))(hj:h[j]?=some (some (elC o2 f)))(hq:h[q]?=some (some (elC o4 f))):
  qae prog 165 [elE e,jp4 i j,.slice (some ⟨q,0,some 0⟩) 1 1] h (.tuple #[elE (qbn e (jel e f) [f]).1,xc (qbn e (jel e f) [f]).2]) [] [i,j,q]:=by
 simp only[xH,xi,xD,or_false,not_or,xy,yy,and_true] at hne
 refine qak (G:=tys) [⟨i,_,elC false e,⟨false,0,[]⟩⟩,⟨j,_,elC false f,⟨false,0,[]⟩⟩,⟨q,_,elC false f,⟨false,0,[]⟩⟩] [] [elE e,jp4 0 1,.slice (some ⟨2,0,some 0⟩) 1 1] tysOK mixed func165 Q8F (call165) ⟨hi,hj,hq,xb⟩ ⟨el_re _,el_re _,el_re _,xb⟩ (by simp[Apart, *]) xb ⟨.plain rfl,.func xb Q7y,.slice rfl,xb⟩ ?_
 repeat' (first|(refine Ba ?_;first|refine Q4Z ?_|refine Bb (jcv e f false he hf 4 6 0 1 Q8I _ _ _ _ Q8F Q8F Q8F Q8F) ?_)|refine qah Q8F ?_)
 rcases qd6 (GL.go (jel e f) false 6).s.emp with hem|hem
 .rcases qd6 (GL.go (jel e f) false 6).s.best.ok with hok|hok
  .have hF:qbn e (jel e f) [f]=(([e]++[f]).foldl lesser e,0):=by unfold qbn;rw[hem,hok];rfl
   rw[hF];repeat' (first|(refine Ba ?_;first|refine Q4Z ?_|refine Bf hem ?_|refine Bf hok ?_)|refine qah Q8F ?_)
   refine Ba ?_;refine qux (elE f) (jjc f rfl) rfl (by show 1*5<=5;decide) Q8I Q8I (rwE 1 [e]) (λh=>absurd h Q8I) (λh=>absurd h Q8I) (λ_ cap hcap=>?_);have le1:ChunkLe (rwE cap ([e]++[f])) (grown (elC true e) 1 1 5 (elE f) (elE El.o) cap):=jja rfl rfl (quw e) hcap;refine Q04 ?_;refine Bq (α:=Nat) (λk=>k<=2) (λk=>2-k) (λk=>[(44,xc (k:Int))]) (λk=>[(9,rwE cap ([e]++[f])),(8,elC true ((([e]++[f]).take k).foldl lesser e))]) 0 [(0,0),(1,1),(2,2),(3,3),(4,4),(5,5),(6,6),(7,7),(8,8),(9,9)] (xn _) ?_ ?_
   .exact Q1a
   intro k hk;by_cases hlt:k<2
   .have st:=qgr ([e]++[f]) e k hlt;generalize hO:(([e]++[f]).take k).foldl lesser e=O;by_cases hless:(([e]++[f]).getD k El.o).tr<O.tr
    .have hls:lesser O (([e]++[f]).getD k El.o)=([e]++[f]).getD k El.o:=if_pos hless;refine Q0z ?_;exact Q3t
    .have hls:lesser O (([e]++[f]).getD k El.o)=O:=if_neg hless;refine Q0x ?_;exact Q3t
   .obtain rfl:k=2:=by omega
    rw[show(([e]++[f]).take 2).foldl lesser e=([e]++[f]).foldl lesser e from qi6 ([e]++[f]) e];exact Q0J
  .have hF:qbn e (jel e f) [f]=((([e]++[(jel e f (GL.go (jel e f) false 6).s.w).1])++[f]).foldl lesser e,0):=by unfold qbn;rw[hem,hok];rfl
   rw[hF];repeat' (first|(refine Ba ?_;first|refine Q4Z ?_|refine Bf hem ?_|refine Bg hok ?_|refine Bb (cWF e f (GL.go (jel e f) false 6).s.w (jp3 _ _ 6 Q8I) he hf 0 1 Q8I _ _ _ Q8F Q8F) ?_)|refine qah Q8F ?_)
   refine Ba ?_;generalize hX:(jel e f (GL.go (jel e f) false 6).s.w).1=X at *;refine qux (elE X) (jjc X rfl) rfl (by show 1*5<=5;decide) Q8I Q8I (rwE 1 [e]) (λh=>absurd h Q8I) (λh=>absurd h Q8I) (λ_ cap hcap=>?_);have le1:ChunkLe (rwE cap ([e]++[X])) (grown (elC true e) 1 1 5 (elE X) (elE El.o) cap):=jja rfl rfl (quw e) hcap;refine Q04 ?_;refine qux (elE f) (jjc f rfl) rfl (by show 2*5<=cap*5;omega) Q8I Q8I (rwE cap (([e]++[X])++[f])) (λh=>joj rfl rfl rfl le1 (show 2<cap from h) rfl) (λhr=>?_) (λhg cap2 hcap2=>?_)
   .skip;refine Q04 ?_;refine Bq (α:=Nat) (λk=>k<=3) (λk=>3-k) (λk=>[(44,xc (k:Int))]) (λk=>[(14,rwE cap (([e]++[X])++[f])),(15,elC true (((([e]++[X])++[f]).take k).foldl lesser e))]) 0 [(0,0),(1,1),(2,2),(3,3),(4,4),(5,5),(6,6),(7,7),(12,12),(13,13),(14,14),(15,15)] (xn _) ?_ ?_
    .repeat' (refine Ba ?_;first|exact Be|refine Q57 ?_|refine Q6x ?_|refine Q5l ?_|refine Q6s ?_|refine Bc (jjb (ChunkLe.refl _)) ?_|refine Bc jii ?_|refine Q5W ?_|fail)
    intro k hk;by_cases hlt:k<3
    .have st:=qgr (([e]++[X])++[f]) e k hlt;generalize hO:((([e]++[X])++[f]).take k).foldl lesser e=O;by_cases hless:((([e]++[X])++[f]).getD k El.o).tr<O.tr
     .have hls:lesser O ((([e]++[X])++[f]).getD k El.o)=(([e]++[X])++[f]).getD k El.o:=if_pos hless;refine Q0z ?_;exact Q3h
     .have hls:lesser O ((([e]++[X])++[f]).getD k El.o)=O:=if_neg hless;refine Q0x ?_;exact Q3h
    exact Q3x
   .have le2:ChunkLe (rwE cap2 (([e]++[X])++[f])) (grown (grown (elC true e) 1 1 5 (elE X) (elE El.o) cap) 2 1 5 (elE f) (elE El.o) cap2):=jja rfl rfl (q3t le1 hcap) hcap2;refine Q04 ?_;refine Bq (α:=Nat) (λk=>k<=3) (λk=>3-k) (λk=>[(44,xc (k:Int))]) (λk=>[(16,rwE cap2 (([e]++[X])++[f])),(15,elC true (((([e]++[X])++[f]).take k).foldl lesser e)),(14,rwE cap ([e]++[X]))]) 0 [(0,0),(1,1),(2,2),(3,3),(4,4),(5,5),(6,6),(7,7),(12,12),(13,13),(14,14),(15,15),(16,16)] (xn _) ?_ ?_
    .repeat' (refine Ba ?_;first|exact Be|refine Q57 ?_|refine Q6x ?_|refine Q5l ?_|refine Q6s ?_|refine Bc (jjb le2) ?_|refine Bc (jjb le1) ?_|refine Bc jii ?_|refine Q5W ?_|fail)
    intro k hk;by_cases hlt:k<3
    .have st:=qgr (([e]++[X])++[f]) e k hlt;generalize hO:((([e]++[X])++[f]).take k).foldl lesser e=O;by_cases hless:((([e]++[X])++[f]).getD k El.o).tr<O.tr
     .have hls:lesser O ((([e]++[X])++[f]).getD k El.o)=(([e]++[X])++[f]).getD k El.o:=if_pos hless;refine Q0z ?_;exact Q3b
     .have hls:lesser O ((([e]++[X])++[f]).getD k El.o)=O:=if_neg hless;refine Q0x ?_;exact Q3b
    exact Q3x
 .have hF:qbn e (jel e f) [f]=(El.o,3):=by unfold qbn;rw[hem];rfl
  exact Q29
theorem q8s(e f:El)(he:e.may)(hf:f.may)(W:World):xa 142 #[elE e,elE f] W (.tuple #[elE (jes e f).1,xc (jes e f).2]):=by
 rw[show jes e f=qbn e (jel e f) [f] from if_pos ⟨he,hf⟩];refine qac (G:=tys) W tysOK mixed func142 Q8F Q8F Q8F ?_;repeat' (first|(refine Ba ?_;first|refine Q4Z ?_|refine Q5L ?_|refine Bf (jls he) ?_|refine Bf (jls hf) ?_|refine Bb (q8r e f he hf 0 1 3 true Q8I _ _ _ Q8F Q8F Q8F) ?_|refine Q5x ?_|refine Bc xb ?_|exact Be|fail)|refine qah Q8F ?_)
 all_goals rfl
theorem qi7(e f:El)(h:Hp)(he:e.may)(hf:f.may):qae prog 142 [elE e,elE f] h (.tuple #[elE (jes e f).1,xc (jes e f).2]) [] []:=
 qai rfl rfl (call142 _) (q8s e f he hf)
theorem q8t(e f r:El)(c:Int)(h:Hp)(hr:jes e f=(r,c))(he:e.may)(hf:f.may):qae prog 142 [elE e,elE f] h (.tuple #[elE r,xc c]) [] []:=by
 have:=qi7 e f h he hf;rw[hr] at this;exact this
theorem q51{o:Oper}{st:St}{x y:Operand}{t:TypeId}{k s l c:Nat}{ck:Chunk}(ho:o.op=.call ⟨.builtin .append,#[x,y],#[t,t]⟩)(hx:EvTo x st (.slice (some ⟨k,0,some s⟩) l c))(hck:st.h[k]?=some (some ck))(hy:EvTo y st (.slice none 0 0))(hc:l<=c)
  (ht:jeq tys t λ_ d=>match d with|.slice e=>jeq tys e λ_ _=>True|_=>False) (hK:K (.slice (some ⟨k,0,some s⟩) l c) []):N (EffAll prog o st K):=N.mk λX ρ a w R next Q hn=>by
 obtain⟨ti,d,_,h1,hd⟩:=qao tysOK ht
 split at hd
 .obtain⟨ei,d2,h2,_,_⟩:=qao tysOK hd;have hx':a.eval x=.slice (some ⟨(ρ k).1,(ρ k).2+0,none⟩) l c:=(hx.den R).self.symm;have hy':a.eval y=.slice none 0 0:=(hy.den R).self.symm;have hrun:(Builtin.append_ #[t,t] o.type #[.slice (some ⟨(ρ k).1,(ρ k).2+0,none⟩) l c,.slice none 0 0]).run prog w=.ok (.slice (some ⟨(ρ k).1,(ρ k).2+0,none⟩) l c) w:=by
   simp[Builtin.append_,run_underlying h1,sizeOf,typeInfo,h2,Builtin.lenOf,run_firstCells_none,storeCells,hc]
  have hrun2:=qc3 (P:=prog) (o:=o) (x:=x) (y:=y) (t:=t) (a:=a) ho Q9B;unfold Oper.wp;rw[hrun2];refine hn _ _ ρ _ _ hK ⟨AgreeOn.refl _ _,R.heap,λr hr=>?_⟩;have e:=hr k ⟨ck,hck⟩;simp[den,den2,den1,den0,jfd,e]
 .exact hd.elim
abbrev jkl(o:Bool)(i j:Nat):Chunk:=⟨o,1,[(0,1,.func (.func 220) #[] (pt2 i j))]⟩
abbrev jp5(i j:Nat):Value:=.func (.func 220) #[] (pt2 i j)
theorem cWC(e:El)(f:Strip)(w:Int)(hw:0<=w/\w<=34)(he:e.may)(hf:f.may)(i j:Nat)(hij:i≠j)(o1 o2:Bool)(h:Hp)(hi:h[i]?=some (some (elC o1 e)))(hj:h[j]?=some (some (stC o2 f))):
  qae prog 220 [xc w,xd i,xd j] h (.tuple #[elE (jem e f w).1,xc (jem e f w).2]) [] [i,j]:=by
 refine qak (G:=tys) [⟨i,_,elC false e,⟨false,0,[]⟩⟩,⟨j,_,stC false f,⟨false,0,[]⟩⟩] [] [xc w,xd 0,xd 1] tysOK mixed func220 Q8F (call220) ⟨hi,hj,xb⟩ ⟨el_re _,st_re _,xb⟩ Q9b xb Q86 ?_
 repeat' (first|(refine Ba ?_;first|refine Q4Z ?_|refine Bb (jog e f w _ hw he hf) ?_|refine Q5x ?_|refine Bc xb ?_|exact Be|fail)|refine qah Q8F ?_)
theorem cQC(e:El)(f:Strip)(w:Int)(b:Bool)(hw:0<=w/\w<=34)(he:e.may)(hf:f.may)(k m i j:Nat)(hne:[k,m,i,j].Nodup)(o1 o2 o3:Bool)(h:Hp)(hk:h[k]?=some (some (jkl o3 i j)))(hm:h[m]?=some (some (bC b)))(hi:h[i]?=some (some (elC o1 e)))(hj:h[j]?=some (some (stC o2 f))):
  qae prog 190 [xc w,xd k,xd m] h (.tuple #[xc (je8 (jem e f) w).n,.bool (je8 (jem e f) w).ok]) [(m,bC (b||decide ((jem e f w).2=3)))] [k,i,j]:=by
 simp only[xH,xi,xD,or_false,not_or,xy,yy,and_true] at hne
 refine qak (G:=tys) [⟨m,_,bC b,bC (b||decide ((jem e f w).2=3))⟩,⟨k,_,jkl false 2 3,⟨false,0,[]⟩⟩,⟨i,_,elC false e,⟨false,0,[]⟩⟩,⟨j,_,stC false f,⟨false,0,[]⟩⟩] [] [xc w,xd 1,xd 0] tysOK mixed func190 Q8F (call190) ⟨hm,hk,hi,hj,xb⟩ ⟨b_re (nlr _) _,Q7l,el_re _,st_re _,xb⟩ Q9s xb Q86 ?_
 cases b
 all_goals
  repeat' (first|(refine Ba ?_;first|refine Q4Z ?_|refine Bb (cWC e f w hw he hf 2 3 Q8I _ _ _ Q8F Q8F) ?_|refine Bb (qey _ _ _ _ _ _) ?_|refine Bg Q8F ?_|refine Q5x ?_|refine Q5H ?_|exact Be|fail)|refine qah Q8F ?_)
theorem jkm(e:El)(f:Strip)(w:Int)(s:GS)(hw:0<=w/\w<=34)(he:e.may)(hf:f.may)(a k m i j:Nat)(hne:[a,k,m,i,j].Nodup)(o1 o2 o3:Bool)(h:Hp)(ha:h[a]?=some (some (seC true k m s)))(hk:h[k]?=some (some (jkl o3 i j)))(hm:h[m]?=some (some (bC s.emp)))(hi:h[i]?=some (some (elC o1 e)))(hj:h[j]?=some (some (stC o2 f))):
  qae prog 207 [xd a,xc w] h (.agg #[xc (je8 (jem e f) w).n,.bool (je8 (jem e f) w).ok]) [(a,seC true k m (s.ask (jem e f) w)),(m,bC (s.ask (jem e f) w).emp)] [k,i,j]:=by
 simp only[xH,xi,xD,or_false,not_or,xy,yy,and_true] at hne
 have hemp:(s.ask (jem e f) w).emp=(s.emp||decide ((jem e f w).2=3)):=by unfold GS.ask;split<;>rfl
 rcases qd6 (je8 (jem e f) w).ok with h1|h1
 .skip;have hs':s.ask (jem e f) w=⟨s.w,s.best,s.emp||decide ((jem e f w).2=3)⟩:=by unfold GS.ask;exact if_neg (by simp[h1])
  exact Q06
 .rcases qd6 s.best.ok with h2|h2
  .skip;have hs':s.ask (jem e f) w=⟨w,je8 (jem e f) w,s.emp||decide ((jem e f w).2=3)⟩:=by unfold GS.ask;exact if_pos (by simp[h1,h2])
   exact Q06
  .by_cases h3:(je8 (jem e f) w).n<s.best.n
   .skip;have hs':s.ask (jem e f) w=⟨w,je8 (jem e f) w,s.emp||decide ((jem e f w).2=3)⟩:=by unfold GS.ask;exact if_pos (by simp[h1,h2,h3])
    exact Q06
   .by_cases h4:(je8 (jem e f) w).n=s.best.n
    .by_cases h5:w<s.w
     .skip;have hs':s.ask (jem e f) w=⟨w,je8 (jem e f) w,s.emp||decide ((jem e f w).2=3)⟩:=by unfold GS.ask;exact if_pos (by simp[h1,h2,h4,h5])
      exact Q06
     .skip;have hs':s.ask (jem e f) w=⟨s.w,s.best,s.emp||decide ((jem e f w).2=3)⟩:=by unfold GS.ask;exact if_neg (by simp[h1,h2,h3,h5])
      exact Q06
    .skip;have hs':s.ask (jem e f) w=⟨s.w,s.best,s.emp||decide ((jem e f w).2=3)⟩:=by unfold GS.ask;exact if_neg (by simp[h1,h2,h3,h4])
     exact Q06
theorem qq8(e:El)(f:Strip)(w w':Int)(s:GS)(hww:w'=w)(hw:0<=w/\w<=34)(he:e.may)(hf:f.may)(a k m i j:Nat)(hne:[a,k,m,i,j].Nodup)(o1 o2 o3:Bool)(h:Hp)(ha:h[a]?=some (some (seC true k m s)))(hk:h[k]?=some (some (jkl o3 i j)))(hm:h[m]?=some (some (bC s.emp)))(hi:h[i]?=some (some (elC o1 e)))(hj:h[j]?=some (some (stC o2 f))):
  qae prog 207 [xd a,xc w'] h (.agg #[xc (je8 (jem e f) w).n,.bool (je8 (jem e f) w).ok]) [(a,seC true k m (s.ask (jem e f) w)),(m,bC (s.ask (jem e f) w).emp)] [k,i,j]:=by
 subst hww
 exact jkm e f w' s hw he hf a k m i j hne o1 o2 o3 h ha hk hm hi hj
theorem jcw(e:El)(f:Strip)(b:Bool)(he:e.may)(hf:f.may)(k m i j:Nat)(hne:[k,m,i,j].Nodup)(o1 o2 o3:Bool)(h:Hp)(hk:h[k]?=some (some (jkl o3 i j)))(hm:h[m]?=some (some (bC b)))(hi:h[i]?=some (some (elC o1 e)))(hj:h[j]?=some (some (stC o2 f))):
  qae prog 189 [.func (.func 190) #[] (pt2 k m)] h (.tuple #[xc (GL.go (jem e f) b 6).s.w,xc (GL.go (jem e f) b 6).s.best.n,.bool (GL.go (jem e f) b 6).s.best.ok]) [(m,bC (GL.go (jem e f) b 6).s.emp)] [k,i,j]:=by
 simp only[xH,xi,xD,or_false,not_or,xy,yy,and_true] at hne
 refine qak (G:=tys) [⟨m,_,bC b,bC (GL.go (jem e f) b 6).s.emp⟩,⟨k,_,jkl false 2 3,⟨false,0,[]⟩⟩,⟨i,_,elC false e,⟨false,0,[]⟩⟩,⟨j,_,stC false f,⟨false,0,[]⟩⟩] [] [.func (.func 190) #[] (pt2 1 0)] tysOK mixed func189 Q8F (call189) ⟨hm,hk,hi,hj,xb⟩ ⟨b_re (nlr _) _,Q7l,el_re _,st_re _,xb⟩ Q9s xb ⟨.func xb Q7y,xb⟩ ?_
 repeat' (first|(refine Ba ?_;first|refine Q4Z ?_|refine Bb (jkm e f 13 ⟨0,⟨0,false⟩,b⟩ Q8I he hf 4 1 0 2 3 Q8I _ _ _ _ Q8F Q8F Q8F Q8F Q8F) ?_|refine Bb (jkm e f 21 (GS.ask (jem e f) ⟨0,⟨0,false⟩,b⟩ 13) Q8I he hf 4 1 0 2 3 Q8I _ _ _ _ Q8F Q8F Q8F Q8F Q8F) ?_|refine Q5d ?_|refine Bb (jki (je8 (jem e f) 13) (je8 (jem e f) 21) _) ?_|refine Q5m ?_|refine Bi (λhb=>?_) (λhb=>?_)|refine Bb (qq8 e f 8 _ (GS.first (jem e f) b) Q8I Q8I he hf 4 1 0 2 3 Q8I _ _ _ _ Q8F Q8F Q8F Q8F Q8F) ?_)|refine qah Q8F ?_)
 .refine Ba ?_;refine N.jumps tysOK mixed (α:=Nat) (λl n=>(l=0/\n<=6)\/(l=1/\n<6/\(GL.go (jem e f) b n).fx.most (GL.go (jem e f) b n).fy=false)) (λl n=>if l=0 then 2*(6-n)+1 else 2*(6-n)) (λ_ n=>[(5,xd 4),(6,xc (GL.go (jem e f) b n).a),(7,xc (GL.go (jem e f) b n).b),(8,xc (GL.go (jem e f) b n).x),(9,xc (GL.go (jem e f) b n).y),(10,xd 13),(11,xd 14)]) (λ_ n=>[(0,bC (GL.go (jem e f) b n).s.emp),(4,seC true 1 0 (GL.go (jem e f) b n).s),(13,gvC (GL.go (jem e f) b n).fx),(14,gvC (GL.go (jem e f) b n).fy)]) 0 Q8r ?_ ?_
  .exact Q1D
  exact Q08
 .refine Ba ?_;refine N.jumps tysOK mixed (α:=Nat) (λl n=>(l=0/\n<=6)\/(l=1/\n<6/\(GL.go (jem e f) b n).fx.most (GL.go (jem e f) b n).fy=false)) (λl n=>if l=0 then 2*(6-n)+1 else 2*(6-n)) (λ_ n=>[(5,xd 4),(6,xc (GL.go (jem e f) b n).a),(7,xc (GL.go (jem e f) b n).b),(8,xc (GL.go (jem e f) b n).x),(9,xc (GL.go (jem e f) b n).y),(10,xd 13),(11,xd 14)]) (λ_ n=>[(0,bC (GL.go (jem e f) b n).s.emp),(4,seC true 1 0 (GL.go (jem e f) b n).s),(13,gvC (GL.go (jem e f) b n).fx),(14,gvC (GL.go (jem e f) b n).fy)]) 1 (.inl ⟨rfl,by decide⟩) ?_ ?_
  .rw[show GL.go (jem e f) b 1=(GL.start (jem e f) b).left (jem e f) from if_pos Q9N];exact Q1D
  exact Q08
theorem q8u(e:El)(f:Strip)(he:e.may)(hf:f.may)(i j:Nat)(hne:i≠j)(o1 o2:Bool)(h:Hp)(hi:h[i]?=some (some (elC o1 e)))(hj:h[j]?=some (some (stC o2 f)))  :
  qae prog 165 [elE e,jp5 i j,.slice none 0 0] h (.tuple #[elE (qbn e (jem e f) []).1,xc (qbn e (jem e f) []).2]) [] [i,j]:=by
 refine qak (G:=tys) [⟨i,_,elC false e,⟨false,0,[]⟩⟩,⟨j,_,stC false f,⟨false,0,[]⟩⟩] [] [elE e,jp5 0 1,.slice none 0 0] tysOK mixed func165 Q8F (call165) ⟨hi,hj,xb⟩ ⟨el_re _,st_re _,xb⟩ (by simp[Apart, *]) xb ⟨.plain rfl,.func xb Q7y,.plain rfl,xb⟩ ?_
 repeat' (first|(refine Ba ?_;first|refine Q4Z ?_|refine Bb (jcw e f false he hf 3 5 0 1 Q8I _ _ _ _ Q8F Q8F Q8F Q8F) ?_)|refine qah Q8F ?_)
 rcases qd6 (GL.go (jem e f) false 6).s.emp with hem|hem
 .rcases qd6 (GL.go (jem e f) false 6).s.best.ok with hok|hok
  .have hF:qbn e (jem e f) []=(([e]++[]).foldl lesser e,0):=by unfold qbn;rw[hem,hok];rfl
   rw[hF];repeat' (first|(refine Ba ?_;first|refine Q4Z ?_|refine Bf hem ?_|refine Bf hok ?_)|refine qah Q8F ?_)
   refine Ba ?_;refine q51 (ck:=elC true e) rfl rfl rfl rfl Q8I xb ?_;have le1:ChunkLe (rwE 1 [e]) (elC true e):=jct e;refine Q04 ?_;refine Bq (α:=Nat) (λk=>k<=1) (λk=>1-k) (λk=>[(44,xc (k:Int))]) (λk=>[(6,rwE 1 [e]),(7,elC true (([e].take k).foldl lesser e))]) 0 [(0,0),(1,1),(2,2),(3,3),(4,4),(5,5),(6,6),(7,7)] (xn _) ?_ ?_
   .exact Q1a
   intro k hk;by_cases hlt:k<1
   .have st:=qgr [e] e k hlt;generalize hO:([e].take k).foldl lesser e=O;by_cases hless:([e].getD k El.o).tr<O.tr
    .have hls:lesser O ([e].getD k El.o)=[e].getD k El.o:=if_pos hless;refine Q0z ?_;exact Q3G
    .have hls:lesser O ([e].getD k El.o)=O:=if_neg hless;refine Q0x ?_;exact Q3G
   .obtain rfl:k=1:=by omega
    rw[show([e].take 1).foldl lesser e=[e].foldl lesser e from qi6 [e] e];exact Q0J
  .have hF:qbn e (jem e f) []=((([e]++[(jem e f (GL.go (jem e f) false 6).s.w).1])++[]).foldl lesser e,0):=by unfold qbn;rw[hem,hok];rfl
   rw[hF];repeat' (first|(refine Ba ?_;first|refine Q4Z ?_|refine Bf hem ?_|refine Bg hok ?_|refine Bb (cWC e f (GL.go (jem e f) false 6).s.w (jp3 _ _ 6 Q8I) he hf 0 1 Q8I _ _ _ Q8F Q8F) ?_)|refine qah Q8F ?_)
   refine Ba ?_;generalize hX:(jem e f (GL.go (jem e f) false 6).s.w).1=X at *;refine qux (elE X) (jjc X rfl) rfl (by show 1*5<=5;decide) Q8I Q8I (rwE 1 [e]) (λh=>absurd h Q8I) (λh=>absurd h Q8I) (λ_ cap hcap=>?_);have le1:ChunkLe (rwE cap ([e]++[X])) (grown (elC true e) 1 1 5 (elE X) (elE El.o) cap):=jja rfl rfl (quw e) hcap;refine Q04 ?_;refine q51 rfl rfl rfl rfl hcap xb ?_;refine Q04 ?_;refine Bq (α:=Nat) (λk=>k<=2) (λk=>2-k) (λk=>[(44,xc (k:Int))]) (λk=>[(13,rwE cap ([e]++[X])),(14,elC true ((([e]++[X]).take k).foldl lesser e))]) 0 [(0,0),(1,1),(2,2),(3,3),(4,4),(5,5),(6,6),(11,11),(12,12),(13,13),(14,14)] (xn _) ?_ ?_
   .exact Q1a
   intro k hk;by_cases hlt:k<2
   .have st:=qgr ([e]++[X]) e k hlt;generalize hO:(([e]++[X]).take k).foldl lesser e=O;by_cases hless:(([e]++[X]).getD k El.o).tr<O.tr
    .have hls:lesser O (([e]++[X]).getD k El.o)=([e]++[X]).getD k El.o:=if_pos hless;refine Q0z ?_;exact Q3i
    .have hls:lesser O (([e]++[X]).getD k El.o)=O:=if_neg hless;refine Q0x ?_;exact Q3i
   .obtain rfl:k=2:=by omega
    rw[show(([e]++[X]).take 2).foldl lesser e=([e]++[X]).foldl lesser e from qi6 ([e]++[X]) e];exact Q0J
 .have hF:qbn e (jem e f) []=(El.o,3):=by unfold qbn;rw[hem];rfl
  exact Q29
theorem jcx(e:El)(f:Strip)(he:e.may)(hf:f.may)(W:World):xa 200 #[elE e,stV f] W (.tuple #[elE (jf4 e f).1,xc (jf4 e f).2]):=by
 rw[show jf4 e f=qbn e (jem e f) [] from if_pos ⟨he,hf⟩];refine qac (G:=tys) W tysOK mixed func200 Q8F Q8F Q8F ?_;repeat' (first|(refine Ba ?_;first|refine Q4Z ?_|refine Q5L ?_|refine Bb (qlq f _) ?_|refine Bf (jls he) ?_|refine Bf (jls hf) ?_|refine Bb (q8u e f he hf 0 1 Q8I _ _ _ Q8F Q8F) ?_|refine Q5x ?_|refine Bc xb ?_|exact Be|fail)|refine qah Q8F ?_)
 all_goals rfl
theorem jkn(e:El)(f:Strip)(h:Hp)(he:e.may)(hf:f.may):qae prog 200 [elE e,stV f] h (.tuple #[elE (jf4 e f).1,xc (jf4 e f).2]) [] []:=
 qai rfl rfl (call200 _) (jcx e f he hf)
theorem q52(e:El)(f:Strip)(r:El)(c:Int)(h:Hp)(hr:jf4 e f=(r,c))(he:e.may)(hf:f.may):qae prog 200 [elE e,stV f] h (.tuple #[elE r,xc c]) [] []:=by
 have:=jkn e f h he hf;rw[hr] at this;exact this
theorem q8v(e:El)(f:Strip)(he:e.may)(hf:¬ f.may)(W:World):xa 200 #[elE e,stV f] W (.tuple #[elE El.o,xc 1]):=by
 refine qac (G:=tys) W tysOK mixed func200 Q8F Q8F Q8F ?_;repeat' (first|(refine Ba ?_;first|refine Q4Z ?_|refine Q5L ?_|refine Bb (qlq f _) ?_|refine Bf (jls he) ?_|refine Bg (by rw[xe hf];rfl) ?_|refine Q5x ?_|refine Bc xb ?_|exact Be|fail)|refine qah Q8F ?_)
 all_goals rfl
theorem q53(e:El)(f:Strip)(h:Hp)(he:e.may)(hf:¬ f.may):qae prog 200 [elE e,stV f] h (.tuple #[elE El.o,xc 1]) [] []:=
 qai rfl rfl (call200 _) (q8v e f he hf)
open Go Go.RowKit Sx
theorem jok(x:Int)(h:Hp)(bx:Bd x 50):qae prog 132 [wz 1,wz x] h (wz x) [] []:=by
 have b1:Bd (1:Int) 0:=Bd.of (n:=1) Q8I;have:=cMulz 1 x h b1.b16 bx.b16 (b1.mul bx).top;rwa[Int.one_mul] at this
theorem qz7(x y:Int)(i:Nat)(o:Bool)(h:Hp)(hx:x.natAbs<=1125899906842624)(hy:y.natAbs<=1125899906842624) 
  (hi:h[i]?=some (some ⟨o,2,[(0,2,.agg #[xc x,xc y])]⟩)) :
  qae prog 239 [.slice (some ⟨i,0,some 0⟩) 2 2] h (wz (x*y)) [] [i]:=by
 have bx:Bd x 50:=Bd.of hx
 have bY:Bd y 50:=Bd.of hy
 have b1:Bd (1:Int) 0:=Bd.of (n:=1) Q8I
 have e1:1*x=x:=Int.one_mul x
 have bp:Bd (x*y) 100:=bx.mul bY
 refine qak (G:=tys) [⟨i,_,⟨false,2,[(0,2,.agg #[xc x,xc y])]⟩,⟨false,0,[]⟩⟩] [] [.slice (some ⟨0,0,some 0⟩) 2 2] tysOK mixed func239 Q8F (call239) ⟨hi,xb⟩ ⟨qin (qam rfl rfl),xb⟩ Q8K xb ⟨.slice rfl,xb⟩ ?_
 repeat' (first|(refine Ba ?_;first|refine Q4Z ?_|refine Q5Q ?_|refine Q6r ?_)|refine qah Q8F ?_)
 refine Ba ?_
 refine Bp 3 ?_
 repeat' (first|(refine Ba ?_;first|refine Q4Z ?_|refine Q5Q ?_|refine Q6r ?_|refine Q62 ?_|refine Bj 1 0 Q8I Q8I ?_|refine Q5m ?_|refine Q5d ?_|refine Q6K ?_|exact Be|fail)|refine qah Q8F ?_)
theorem qm2(x y v:Int)(i:Nat)(o:Bool)(h:Hp)(hx:x.natAbs<=1125899906842624)(hy:y.natAbs<=1125899906842624)(hv:v.natAbs<=1125899906842624) 
  (hi:h[i]?=some (some ⟨o,3,[(0,3,.agg #[xc x,xc y,xc v])]⟩)) :
  qae prog 239 [.slice (some ⟨i,0,some 0⟩) 3 3] h (wz (x*y*v)) [] [i]:=by
 have bx:Bd x 50:=Bd.of hx
 have bY:Bd y 50:=Bd.of hy
 have bv:Bd v 50:=Bd.of hv
 have b1:Bd (1:Int) 0:=Bd.of (n:=1) Q8I
 have e1:1*x=x:=Int.one_mul x
 have bp:Bd (x*y) 100:=bx.mul bY
 refine qak (G:=tys) [⟨i,_,⟨false,3,[(0,3,.agg #[xc x,xc y,xc v])]⟩,⟨false,0,[]⟩⟩] [] [.slice (some ⟨0,0,some 0⟩) 3 3] tysOK mixed func239 Q8F (call239) ⟨hi,xb⟩ ⟨qin (qam rfl rfl),xb⟩ Q8K xb ⟨.slice rfl,xb⟩ ?_
 repeat' (first|(refine Ba ?_;first|refine Q4Z ?_|refine Q5Q ?_|refine Bb (cOfz v _ Q8E Q8E) ?_|refine Q6r ?_|refine Bb (cMulz (x*y) v _ bp.b16 bv.b16 (bp.mul bv).top) ?_)|refine qah Q8F ?_)
 refine Ba ?_
 refine Bp 4 ?_
 repeat' (first|(refine Ba ?_;first|refine Q4Z ?_|refine Q5Q ?_|refine Bb (cOfz v _ Q8E Q8E) ?_|refine Q6r ?_|refine Bb (cMulz (x*y) v _ bp.b16 bv.b16 (bp.mul bv).top) ?_|refine Q62 ?_|refine Q5u ?_|refine Q5m ?_|refine Q5d ?_|refine Q6K ?_|exact Be|fail)|refine qah Q8F ?_)
theorem jlt(h:n<=pw 120):n<2^125:=xM h (yR Q8I Q8I)
theorem jcy(h:n<=pw 120):isq n<=1152921504606846976:=by
 have:=qi0 (v:=n) (n:=1152921504606846977) (by
  refine xM h ?_;show 2^120<1152921504606846977*1152921504606846977;decide)
 omega
theorem q8w(n:Nat)(hn:n<=pw 120)(w:World):xa 240 #[wz (n:Int)] w (.tuple #[xc (isq n:Nat),xc 0]):=by
 have h1:=jcy hn;have h2:=qdu (z:=(isq n:Nat)) Q8E;have hb:Bd ((isq n:Nat):Int) 60:=Bd.of (n:=1152921504606846976) Q8E;refine qac (G:=tys) w tysOK mixed func240 Q8F Q8Z Q8F ?_;repeat' (first|(refine Ba ?_;first|refine Q4Z ?_|refine Bc (qab _ _ _) ?_|refine Bb (q5q n _ (xA (jlt hn) (yR Q8I Q8I))) ?_|refine Bb (qh3 _ _ hb.top) ?_)|refine qah Q8F ?_)
 rw[h2.1,h2.2]
theorem qz8(z:Int)(h:Hp)(h0:0<=z)(hz:Bd z 120):qae prog 240 [wz z] h (.tuple #[xc (isq z.toNat:Nat),xc 0]) [] []:=by
 obtain⟨n,rfl⟩:=yL h0;exact qai Q8Z rfl (call240 _) (q8w n hz)
theorem jqw(z:Int)(h:Hp)(h0:0<=z)(hz:Bd z 120):qae prog 238 [wz z] h (.tuple #[xc (usq z.toNat:Nat),xc 0]) [] []:=by
 obtain⟨n,rfl⟩:=yL h0;exact qzb n h (jlt hz)
theorem jcz(h' w k m far:Int)(hh:0<=h'/\h'<=281474976710656)(hw:0<=w/\w<=281474976710656)(hk:0<=k/\k<=281474976710656)(hm:0<=m/\m<=33554432)(hf:0<=far/\far<=33554432)(W:World):xa 218 #[xc h',xc w,xc k,xc m,xc far] W (.tuple #[xc (jih h' w k m),xc (jha h' w far),xc 0]):=by
 have bh:Bd h' 48:=Bd.of (n:=281474976710656) Q8E;have bk:Bd k 48:=Bd.of (n:=281474976710656) Q8E;have bm:Bd m 25:=Bd.of (n:=33554432) Q8E;have bf:Bd far 25:=Bd.of (n:=33554432) Q8E;have bl:Bd (h'*m*m-k*k) 99:=Bd.sub 98 ((bh.mul bm).mul bm) (bk.mul bk);have bu:Bd (h'*far*far) 120:=((bh.mul bf).mul bf).le Q8I;have hu0:0<=h'*far*far:=x9 (x9 hh.1 hf.1) hf.1;have w1:IntKind.i64.wrap (h'-w)=h'-w:=jep _ Q8E Q8E;have w2:IntKind.i64.wrap (h'+w)=h'+w:=jep _ Q8E Q8E;unfold jih jha;refine qac (G:=tys) W tysOK mixed func218 Q8F Q8F Q8F ?_;by_cases h1:0<h'-w
 .rw[if_pos h1];by_cases h2:0<h'*m*m-k*k
  .rw[if_pos h2];repeat' (first|(refine Ba ?_;first|refine Q4Z ?_|refine Q6h ?_|refine Bb (qm2 h' far far 15 _ _ Q8E Q8E Q8E Q8F) ?_|refine Q5E ?_|refine Q5d ?_|refine Bg (by rw[xh,w1];exact h1) ?_|refine Bg (by rw[xh];exact(qog _).2 h2) ?_)|refine qah Q8F ?_)
   rw[w1,w2]
  .rw[if_neg h2];repeat' (first|(refine Ba ?_;first|refine Q4Z ?_|refine Q6h ?_|refine Bb (qm2 h' far far 15 _ _ Q8E Q8E Q8E Q8F) ?_|refine Q5E ?_|refine Q5d ?_|refine Bg (by rw[xh,w1];exact h1) ?_|refine Bf (by rw[xj];exact λh=>h2 ((qog _).1 h)) ?_)|refine qah Q8F ?_)
   rw[w1,w2]
 .rw[if_neg h1];repeat' (first|(refine Ba ?_;first|refine Q4Z ?_|refine Q6h ?_|refine Bb (qm2 h' far far 0 _ _ Q8E Q8E Q8E Q8F) ?_|refine Q5E ?_|refine Q5d ?_|refine Bf (by rw[xj,w1];exact h1) ?_)|refine qah Q8F ?_)
  rw[w1,w2]
theorem jol(h' w k m far:Int)(h:Hp)(hh:0<=h'/\h'<=281474976710656)(hw:0<=w/\w<=281474976710656)(hk:0<=k/\k<=281474976710656)(hm:0<=m/\m<=33554432)(hf:0<=far/\far<=33554432):qae prog 218 [xc h',xc w,xc k,xc m,xc far] h (.tuple #[xc (jih h' w k m),xc (jha h' w far),xc 0]) [] []:=
 qai rfl rfl (call218 _) (jcz h' w k m far hh hw hk hm hf)
theorem jc0(lo hi:Int)(W:World):xa 197 #[xc lo,xc hi] W (.bool (decide (jg4 lo hi))):=by
 refine qac (G:=tys) W tysOK mixed func197 Q8F Q8F Q8F ?_;repeat' (refine Ba ?_;first|refine Q4Z ?_|with_reducible refine Bi (λhb=>?_) (λhb=>?_)|fail)
 all_goals
  refine jfn ?_
  unfold jg4
  simp only[xh,xj,xz,false_iff,true_iff,iff_true,iff_false,reduceCtorEq,ya,xy,yb,xR] at *
  omega
theorem jom(lo hi:Int)(h:Hp):qae prog 197 [xc lo,xc hi] h (.bool (decide (jg4 lo hi))) [] []:=
 qai rfl rfl (call197 _) (jc0 lo hi)
theorem quy(he:e.may){x y:Int}(hx : -8388608<=x/\x<=8388608)(hy : -8388608<=y/\y<=8388608):0<=qlr e x y/\qlr e x y<=281474976710656:=by
 unfold El.may mayP at he;have bx:x*x<=70368744177664:=by
  have:=x9 (by omega:0<=8388608-x) (by omega:0<=8388608+x)
  grind
 have by':y*y<=70368744177664:=by
  have:=x9 (by omega:0<=8388608-y) (by omega:0<=8388608+y)
  grind
 have bxy : -70368744177664<=x*y/\x*y<=70368744177664:=by
  have h1:=jgf (x+y);have h2:=jgf (x-y)
  grind
 have q1:e.a*(x*x)<=70368744177664*70368744177664:=yC Q8E bx (jgf x) Q8E;have q2:e.d*(y*y)<=70368744177664*70368744177664:=yC Q8E by' (jgf y) Q8E;have q3:e.b*(x*y)<=70368744177664*70368744177664:=by
  have h1:=yO e.b (x*y);have h2:e.b.natAbs*(x*y).natAbs<=70368744177664*70368744177664:=ym Q8E Q8E;omega
 unfold qlr;refine⟨by omega,?_⟩;have hq:(jfo e.a e.b e.d x y).toNat<=281474976710656*281474976710656:=by unfold jfo;omega
 have:=qza hq;omega
theorem quz(h' w k m far h1 m1 f1:Int)(h:Hp)(e1:h1=h')(e2:m1=m)(e3:f1=far)(hh:0<=h'/\h'<=281474976710656)(hw:0<=w/\w<=281474976710656)(hk:0<=k/\k<=281474976710656)(hm:0<=m/\m<=33554432)(hf:0<=far/\far<=33554432):qae prog 218 [xc h1,xc w,xc k,xc m1,xc f1] h (.tuple #[xc (jih h' w k m),xc (jha h' w far),xc 0]) [] []:=by
 subst e1 e2 e3;exact jol _ w k _ _ h hh hw hk hm hf
theorem qgs(e:El)(x y x1 y1:Int)(h:Hp)(e1:x1=x)(e2:y1=y)(he:e.may)(hw:qaz 16777216 x y):qae prog 217 [elE e,.agg #[xc x1,xc y1]] h (.tuple #[xc (qlr e x y),xc 0]) [] []:=by
 subst e1 e2;exact q7v e.x e.y e.a e.b e.d _ _ h he hw
theorem jhx(e:El)(h:Hp):qae prog 198 [elE e] h (xc (e.rad:Nat)) [] []:=qsn e.x e.y e.a e.b e.d h
theorem jc1(e n:El)(lo hi:Int)(he:e.may)(hn:n.may)(hd:jg4 lo hi)(W:World):xa 199 #[elE e,elE n,xc lo,xc hi] W (.tuple #[stV (je3 e n lo hi).1,xc (je3 e n lo hi).2]):=by
 have hr:=(qlp hn).2.1;have he2:=he;have hn2:=hn;have hd2:=hd;unfold El.may mayP qaz at he2 hn2;unfold jg4 at hd2;have w1:IntKind.i64.wrap (e.x-n.x)=e.x-n.x:=jep _ Q8E Q8E;have w2:IntKind.i64.wrap (e.y-n.y)=e.y-n.y:=jep _ Q8E Q8E;have w3:IntKind.i64.wrap (0-(e.y-n.y)) = -(e.y-n.y):=by rw[jep _ Q8E Q8E];omega
 have qx:(e.x-n.x)*(e.x-n.x)<=70368744177664:=by
  have:=x9 (by omega:0<=8388608-(e.x-n.x)) (by omega:0<=8388608+(e.x-n.x));have e1:(8388608-(e.x-n.x))*(8388608+(e.x-n.x))=70368744177664-(e.x-n.x)*(e.x-n.x):=by grind
  omega
 have qy:(e.y-n.y)*(e.y-n.y)<=70368744177664:=by
  have:=x9 (by omega:0<=8388608-(e.y-n.y)) (by omega:0<=8388608+(e.y-n.y));have e1:(8388608-(e.y-n.y))*(8388608+(e.y-n.y))=70368744177664-(e.y-n.y)*(e.y-n.y):=by grind
  omega
 have q0:=jgf (e.x-n.x);have q1:=jgf (e.y-n.y);have w4:IntKind.i64.wrap (IntKind.i64.wrap ((e.x-n.x)*(e.x-n.x))+IntKind.i64.wrap ((e.y-n.y)*(e.y-n.y)))=(e.x-n.x)*(e.x-n.x)+(e.y-n.y)*(e.y-n.y):=by
  rw[jep ((e.x-n.x)*(e.x-n.x)) Q8E Q8E,jep ((e.y-n.y)*(e.y-n.y)) Q8E Q8E,jep _ Q8E Q8E]
 have w5:IntKind.i64.wrap (lo-n.rad)=lo-n.rad:=jep _ Q8E Q8E;have w6:IntKind.i64.wrap (hi+n.rad)=hi+n.rad:=jep _ Q8E Q8E;have b1:=quy he (x:=e.x-n.x) (y:=e.y-n.y) Q8E Q8E;have b2:=quy he (x:=-(e.y-n.y)) (y:=e.x-n.x) Q8E Q8E;have ew:qaz 16777216 (e.x-n.x) (e.y-n.y):=by unfold qaz;omega
 have ew2:qaz 16777216 (-(e.y-n.y)) (e.x-n.x):=by unfold qaz;omega
 unfold je3;rw[if_neg (λh=>h ⟨he,hn,hd⟩)];by_cases h0:e.x-n.x=0/\e.y-n.y=0
 .rw[if_pos h0];refine Q3y ?_;repeat' (first|(refine Ba ?_;first|refine Q4Z ?_|refine Q5h ?_|refine Q5p ?_|refine Q5d ?_|refine Bg (by rw[w1,w2,h0.1,h0.2];rfl) ?_)|refine qah Q8F ?_)
  all_goals rfl
 rw[if_neg h0];have h0':((IntKind.i64.wrap (e.x-n.x)==0)&&(IntKind.i64.wrap (e.y-n.y)==0))=false:=by
  rw[w1,w2];by_cases hx:e.x-n.x=0
  .have:¬ e.y-n.y=0:=λh=>h0 ⟨hx,h⟩
   simp[this]
  .simp[hx]
 by_cases h1:(jfc e n lo hi).hi<(jfc e n lo hi).lo
 .rw[if_pos h1];refine Q3y ?_;repeat' (first|(refine Ba ?_;first|refine Q4Z ?_|refine Q5h ?_|refine Q5p ?_|refine Q5d ?_|refine Bf h0' ?_|refine Bg (by rw[xh];exact h1) ?_)|refine qah Q8F ?_)
  all_goals rfl
 rw[if_neg h1];by_cases h2:(jfc e n lo hi).hi=(jfc e n lo hi).lo
 .rw[if_pos h2];have hlo:(jfc e n lo hi).hi<=562949953421312:=by
   unfold jfc jha;show min _ _<=_;omega
  have hlo2 : -562949953421312<=(jfc e n lo hi).hi:=by
   unfold jfc jha;show _<=min _ _;omega
  have w7:IntKind.i64.wrap ((jfc e n lo hi).hi+1)=(jfc e n lo hi).hi+1:=jep _ Q8E Q8E;refine Q3y ?_;repeat' (first|(refine Ba ?_;first|refine Q4Z ?_|refine Q5h ?_|refine Q5p ?_|refine Q5d ?_|refine Bf h0' ?_|refine Bf (by rw[xj];exact h1) ?_|refine Bg (by rw[yk];exact h2) ?_)|refine qah Q8F ?_)
  rw[w1,w2];exact congrArg (λz=>Value.tuple #[.agg #[xc n.x,xc n.y,xc (e.x-n.x),xc (e.y-n.y),xc (jfc e n lo hi).lo,xc z],xc 0]) w7
 .rw[if_neg h2];refine Q3y ?_;repeat' (first|(refine Ba ?_;first|refine Q4Z ?_|refine Q5h ?_|refine Q5p ?_|refine Q5d ?_|refine Bf h0' ?_|refine Bf (by rw[xj];exact h1) ?_|refine Bf (by rw[beq_eq_false_iff_ne];exact h2) ?_)|refine qah Q8F ?_)
  rw[w1,w2];rfl
theorem jlu(e n:El)(lo hi:Int)(h:Hp)(he:e.may)(hn:n.may)(hd:jg4 lo hi):qae prog 199 [elE e,elE n,xc lo,xc hi] h (.tuple #[stV (je3 e n lo hi).1,xc (je3 e n lo hi).2]) [] []:=
 qai rfl rfl (call199 _) (jc1 e n lo hi he hn hd)
def jlv(x:Int):Nat->Value
 | _=>.int .i64 x
abbrev riC(o:Bool)(c:Nat)(T:Nat->Int):Chunk:=⟨o,c*1,[(0,c*1,.agg ⟨segL (c*1) λj=>jlv (T (j / 1)) (j%1)⟩)]⟩
abbrev rl(R:List Int)(c:Nat):Chunk:=riC true c (λi=>R.getD i 0)
def evP(now silent:Int)(x:Ent):Bool:=decide (max 1 silent<=now)&&decide (x.heard<=now-max 1 silent)
def evL(E:Ez)(p:Ent->Bool):Nat->List Int
 | 0=>[]
 | r+1=>if p (entT E r)=true then evL E p r++[(entT E r).node] else evL E p r
def evE(E:Ez)(p:Ent->Bool):Nat->Ez
 | 0=>E
 | r+1=>if p (entT E r)=true then jfr (evE E p r) (entT E r).node else evE E p r
def Tbl.ev(T:Tbl)(now silent:Int):Tbl:=⟨T.most,evE T.E (evP now silent) T.E.length,T.lives⟩
inductive EvS where
 | no (r:Nat)
 | yes (r c:Nat)
def EvS.r:EvS->Nat
 | .no r=>r
 | .yes r _=>r
open Go Go.RowKit Sx
theorem jlw(T:Tbl)(hE:T.E=[])(i:Nat)(h:Hp)(hi:h[i]?=some (some (tblC T))):
  qae prog 57 [xd i] h (.slice none 0 0) [(i,tblC T)] []:=by
 refine qaq (G:=tys) (qa5 T.lives) (jf9 T) [⟨i,tblC T,tblC T,tblC T⟩] [] [xd 0] tysOK mixed func57 Q8F (call57) ⟨hi,xb⟩ ⟨Q74,xb⟩ Q8K Q77 xb ⟨.ptr rfl,xb⟩ qav ?_
 intro β hβ
 repeat' (refine Ba ?_;first|refine Q4Z ?_|refine Bb (qyd 1 3 _ _ Q8F Q8F) ?_|fail)
 refine Ba ?_
 refine Bh (qnw T.E 1 3 7 _ _ Q8F rfl Q8F Q8F (by rw[hE];exact xn _)) λv ms hR=>?_
 rcases hR with ⟨hE0,rfl,rfl⟩|⟨kc,hpos,hkc,rfl,rfl⟩
 .refine Q2B ?_;refine Ba ?_;refine Bp 1 ?_;refine Q2B ?_;exact Q25
 .rw[hE] at hpos;exact absurd hpos (Nat.lt_irrefl 0)
theorem q8x(T:Tbl)(hE:T.E=[])(now silent:Int)(i:Nat)(h:Hp)(hi:h[i]?=some (some (tblC T))):
  qae prog 37 [xd i,xc now,xc silent] h (.slice none 0 0) [(i,tblC T)] []:=by
 refine qaq (G:=tys) (qa5 T.lives) (jf9 T) [⟨i,tblC T,tblC T,tblC T⟩] [] [xd 0,xc now,xc silent] tysOK mixed func37 Q8F (call37) ⟨hi,xb⟩ ⟨Q74,xb⟩ Q8K Q77 xb Q7c qav ?_
 intro β hβ
 repeat' (refine Ba ?_;first|refine Q4Z ?_|refine Q5d ?_|fail)
 refine Ba ?_
 refine Bh (jlg _ _ _ T.E (by rw[hE];exact xn _) 0 1 2 3 _ Q8F Q8F Q8I Q8F) λv ms hR=>?_
 rcases hR with ⟨hE0,rfl,rfl⟩|⟨ce,hpos,hce,rfl,rfl⟩
 .refine Q2W ?_;refine Ba ?_;refine Bp 1 ?_;refine Q2W ?_;exact Q25
 .rw[hE] at hpos;exact absurd hpos (Nat.lt_irrefl 0)
theorem jc2(D:NdS)(T:Tbl)(hE:T.E=[])(i0 i1 i2 i3 i4 i5:Nat)(h:Hp)(c0 cf cb cm:Chunk)(h0:h[i0]?=some (some c0))(h1:h[i1]?=some (some (ndC D i2 i3 i4 i5)))(h2:h[i2]?=some (some cf))(h3:h[i3]?=some (some (tblC T)))(h4:h[i4]?=some (some cb))(h5:h[i5]?=some (some cm))(hne:[i0,i1,i2,i3,i4,i5].Nodup):
  qae prog 42 [xd i1,xd i0] h (.tuple #[]) [(i1,ndC D i2 i3 i4 i5),(i3,tblC T)] [i0,i2,i4,i5]:=by
 refine qaq (G:=tys) (h:=h) (vs:=[xd i1,xd i0]) (λ_:Unit=>True) (λ_=>_) [⟨i0,_,noC,noC⟩,⟨i1,_,ndC D 2 3 4 5,ndC D i2 i3 i4 i5⟩,⟨i2,_,noC,noC⟩,⟨i3,tblC T,tblC T,tblC T⟩,⟨i4,_,noC,noC⟩,⟨i5,_,noC,noC⟩] [] [xd 1,xd 0] tysOK mixed func42 Q8F (call42) ⟨h0,h1,h2,h3,h4,h5,xb⟩
  ⟨Q7a,Q7p,Q7a,Q74,Q7a,Q7a,xb⟩ (by
   simp only[xH,xi,xD,not_or,xy,or_false,and_true] at hne;simp[Apart];omega) ⟨.inl rfl,.inr ⟨rfl,rfl⟩,.inl rfl,.inr ⟨rfl,rfl⟩,.inl rfl,.inl rfl,xb⟩ xb ⟨.ptr Q8F,.ptr Q8F,xb⟩ Opens.same ?_
 rintro⟨⟩ -
 repeat' (refine Ba ?_;first|refine Q4Z ?_|refine Bb (jlw T hE 3 _ Q8F) ?_|refine Bb (q75 _ _) ?_|refine Q5m ?_|fail)
 refine Ba ?_
 refine Bn ?_
 refine Bc (.plain Q8F) ?_
 refine Bc ⟨Q7J,⟨_,rfl,id,nlr _,nzj⟩,xb⟩ ?_
 refine Bc xb ?_
 refine Bc Q8d ?_
 exact Be
theorem jc3(D:NdS)(T:Tbl)(hE:T.E=[])(i0 i1 i2 i3 i4 i5:Nat)(h:Hp)(c0 cf cb cm:Chunk)(h0:h[i0]?=some (some c0))(h1:h[i1]?=some (some (ndC D i2 i3 i4 i5)))(h2:h[i2]?=some (some cf))(h3:h[i3]?=some (some (tblC T)))(h4:h[i4]?=some (some cb))(h5:h[i5]?=some (some cm))(hne:[i0,i1,i2,i3,i4,i5].Nodup):
  qae prog 43 [xd i1,xd i0] h (.tuple #[]) [(i1,ndC D i2 i3 i4 i5),(i3,tblC T)] [i0,i2,i4,i5]:=by
 refine qaq (G:=tys) (h:=h) (vs:=[xd i1,xd i0]) (λ_:Unit=>True) (λ_=>_) [⟨i0,_,noC,noC⟩,⟨i1,_,ndC D 2 3 4 5,ndC D i2 i3 i4 i5⟩,⟨i2,_,noC,noC⟩,⟨i3,tblC T,tblC T,tblC T⟩,⟨i4,_,noC,noC⟩,⟨i5,_,noC,noC⟩] [] [xd 1,xd 0] tysOK mixed func43 Q8F (call43) ⟨h0,h1,h2,h3,h4,h5,xb⟩
  ⟨Q7a,Q7p,Q7a,Q74,Q7a,Q7a,xb⟩ (by
   simp only[xH,xi,xD,not_or,xy,or_false,and_true] at hne;simp[Apart];omega) ⟨.inl rfl,.inr ⟨rfl,rfl⟩,.inl rfl,.inr ⟨rfl,rfl⟩,.inl rfl,.inl rfl,xb⟩ xb ⟨.ptr Q8F,.ptr Q8F,xb⟩ Opens.same ?_
 rintro⟨⟩ -
 repeat' (refine Ba ?_;first|refine Q4Z ?_|refine Bp 1 ?_|refine Bb (jlw T hE 3 _ Q8F) ?_|refine Bb (qzn _ _) ?_|refine Q5d ?_|refine Q5m ?_|fail)
 refine Ba ?_
 refine Bn ?_
 refine Bc (.plain Q8F) ?_
 refine Bc ⟨Q7J,⟨_,rfl,id,nlr _,nzj⟩,xb⟩ ?_
 refine Bc xb ?_
 refine Bc Q8d ?_
 exact Be
open Go Go.RowKit Sx
structure NSt where
 C:Nat->Int
 id:Int
 boot:Int
 seq:Int
 told:Int
 asked:Int
 bad:Int
 fm:Int
 fv:Bool
 fx:Int
 fy:Int
 fa:Int
 fb:Int
 fd:Int
 T:Tbl
 bn:Int
 bl:Int
 te:Int
 tx:Int
 S:Nat->Ses
abbrev NSt.nd(s:NSt)(g:Rz):NdS:=⟨s.C,s.id,s.boot,g,s.S,s.seq,s.told,s.asked,s.bad⟩
abbrev ndH(s:NSt)(g:Rz):Hp:=[some (ndC (s.nd g) 1 2 3 4),some (fiC s.fm s.fv s.fx s.fy s.fa s.fb s.fd),some (tblC s.T),some (twC s.bn s.bl),some (twC s.te s.tx)]
abbrev ndP(s:NSt):Chunk:=packC (λ_:Rz=>True) (ndH s)
theorem qe0{ss:List jeo}{h:Hp}{v:Value}{K:Value->Hp->Prop}(s:NSt)(g:Rz)(m i1 i2 i3 i4:Nat)(keep:List Nat){c c1 c3 c4:Chunk}(hpc:∀l,(l=m\/l=i1\/l=i2\/l=i3\/l=i4)->l<ss.length->∃s,ss[l]?=some s/\s.e.x≠Ext.none/\Selfish s.e.x)(hbs:∀i,i<ss.length->i=m\/i∈keep)
  (hm:h[m]?=some (some c)) (ho:c.own=true) (hn:c.n=85) (hx:c.x=jex jfa 64 g s.S) (hc:∀j,j<85->Re1 [(0,m),(1,i1),(2,i2),(3,i3),(4,i4)] (c.f j) ((ndC (s.nd g) 1 2 3 4).f j))
  (h1:h[i1]?=some (some c1)) (ho1:c1.own=true) (hn1:c1.n=7) (hc1:∀j,j<7->Re1 [(0,m),(1,i1),(2,i2),(3,i3),(4,i4)] (c1.f j) ((fiC s.fm s.fv s.fx s.fy s.fa s.fb s.fd).f j))
  (h2:h[i2]?=some (some (tblC s.T)))
  (h3:h[i3]?=some (some c3)) (ho3:c3.own=true) (hn3:c3.n=2) (hc3:∀j,j<2->Re1 [(0,m),(1,i1),(2,i2),(3,i3),(4,i4)] (c3.f j) ((twC s.bn s.bl).f j))
  (h4:h[i4]?=some (some c4)) (ho4:c4.own=true) (hn4:c4.n=2) (hc4:∀j,j<2->Re1 [(0,m),(1,i1),(2,i2),(3,i3),(4,i4)] (c4.f j) ((twC s.te s.tx).f j))
  (hd:jhp [(0,m),(1,i1),(2,i2),(3,i3),(4,i4)]=true)
  (hkk:∀k∈keep,k≠m/\k≠i1/\k≠i2/\k≠i3/\k≠i4) (hkd:∀k∈keep,∀(d:Chunk),h[k]?=some (some d)->∀l,l<d.n->Safe1 (qcm (ndP s) m keep h 0) (d.f l))
  (hv:∀ρ ρ',AgreeOn (Fil (qcm (ndP s) m keep h 0)) ρ ρ'->den ρ' v=den ρ v) (kk:K v (qcm (ndP s) m keep h 0)):N (EndN ss h v K):=by
 refine qyb (ok:=λ_:Rz=>True) (hB:=ndH s) g m [(0,m),(1,i1),(2,i2),(3,i3),(4,i4)] keep (λk l hk hl=>hpc l ?_ hl) hbs xb rfl ⟨_,rfl⟩ hd rfl ?_ (λk hk l i' hm'=>?_) hkd hv (xg.1 hm).1 kk
 .simp only[xi,Prod.mk.injEq,xD,or_false] at hk;omega
 .intro k d hk
  match k,hk with
  | 0,hk=>
   obtain rfl:_=d:=by simpa using hk
   exact⟨m,c,rfl,hm,ho,by rw[hn];exact nlr _,hc,.inr hx.symm,.inl Q8E⟩
  | 1,hk=>
   obtain rfl:_=d:=by simpa using hk
   exact⟨i1,c1,rfl,h1,ho1,by rw[hn1];exact nlr _,hc1,.inl rfl,.inl Q8E⟩
  | 2,hk=>
   obtain rfl:_=d:=by simpa using hk
   exact⟨i2,_,rfl,h2,rfl,nlr _,nzj,.inr rfl,.inr qba⟩
  | 3,hk=>
   obtain rfl:_=d:=by simpa using hk
   exact⟨i3,c3,rfl,h3,ho3,by rw[hn3];exact nlr _,hc3,.inl rfl,.inl Q8E⟩
  | 4,hk=>
   obtain rfl:_=d:=by simpa using hk
   exact⟨i4,c4,rfl,h4,ho4,by rw[hn4];exact nlr _,hc4,.inl rfl,.inl Q8E⟩
  | k+5,hk=>simp at hk
 .exact Q4h
theorem q3u(s:Int)(w:World):xa 35 #[xc s] w (.bool (decide (0<=s/\s<=1000000))):=by
 refine qac (G:=tys) w tysOK mixed func35 Q8F Q8H Q8G ?_;exact Q1E
theorem qgt(s:Int)(h:Hp):qae prog 35 [xc s] h (.bool (decide (0<=s/\s<=1000000))) [] []:=qai rfl rfl (call35 _) (q3u s)
theorem q54(s:NSt):(ndP s).x≠Ext.none:=λe=>by
 have h1:∀p S w,(ndP s).x.inv p S w->S p.1:=qba;exact Q4Y
theorem qop{i:Nat}{T T':NSt}:∀l,(l=0\/l=1\/l=2\/l=3\/l=4)->l<[(⟨i,ndP T,ndP T,ndP T'⟩:jeo)].length->∃s,[(⟨i,ndP T,ndP T,ndP T'⟩:jeo)][l]?=some s/\s.e.x≠Ext.none/\Selfish s.e.x:=λl _ hl=>by
 obtain rfl:l=0:=by simpa using hl
 exact⟨_,rfl,q54 T,qba⟩
theorem jc4(s:NSt)(hE:s.T.E=[])(hv:s.fv=true)(now fine:Int)(ht:0<=now/\now<=1000000)(hd:¬ now<s.tx)(hte:0<=s.te/\s.te<=1000000)(hbn:0<s.bn/\s.bn<1000)(hs:0<=s.seq/\s.seq<65535)(hb:0<=s.boot/\s.boot<=65535)(i K:Nat)(h:Hp)(hi:h[i]?=some (some (ndP s)))(hK:h[K]?=some none):
  CallAll prog 9 [xd i,xc now,xc fine] h (λv ms=>∃κ:Nat,1<=κ/\v=.slice (some ⟨K,0,some 0⟩) 1 κ/\ms=[(i,ndP {s with bl:=s.bn-1,seq:=s.seq+1,tx:=now+s.te}),(K,jkv (outV 5 s.id s.boot s.seq now 0 0 0 0 0 s.fx s.fy s.fa s.fb s.fd fine))]):=by
 have key:=qa8 (G:=tys) (h:=h) (vs:=[xd i,.int .i64 now,.int .i64 fine]) (λ_:Rz=>True) (ndH s) (α:=Nat) (λκ=>1<=κ) (λκ=>.slice (some ⟨K,0,some 0⟩) 1 κ) [⟨i,ndP s,ndP s,ndP s⟩] (λ_=>[ndP {s with bl:=s.bn-1,seq:=s.seq+1,tx:=now+s.te}]) (λκ=>[⟨K,6,jkv (outV 5 s.id s.boot s.seq now 0 0 0 0 0 s.fx s.fy s.fa s.fb s.fd fine)⟩]) [xd 0,.int .i64 now,.int .i64 fine] tysOK mixed func9 Q8F (call9) ⟨hi,xb⟩ ⟨Q74,xb⟩ (λκ _=>⟨Q74,xb⟩) Q8K Q77 (λκ hκ=>⟨⟨hK,rfl,.inl (by show 0<16;decide),by simp⟩,xb⟩) Q7c qav ?_
 .refine qax key λv ms hR=>?_
  exact Q3F
 intro g _
 repeat' (refine Ba ?_;first|refine Q4Z ?_|refine Bb (qgt now _) ?_|refine Bf Q9P ?_|refine Bb (q70 s.bn s.bl 3 _ Q8F) ?_|refine Bb (q8x s.T hE _ _ 2 _ Q8F) ?_|refine Bb (q71 s.te s.tx now 4 _ Q8F ⟨hd,by omega⟩ Q8E) ?_|refine Bb (quk _ _ _ _ _ _ _ 1 _ Q8F) ?_|refine Bb (jpz _ _ _ _ _ _ _ 1 _ Q8F) ?_|refine Bg hv ?_|refine Bf hv ?_|refine Q5d ?_|fail)
 refine Ba ?_
 refine Bh (jb4 (s.nd g) now fine s.bn s.bn 5 0 0 0 0 0 0 0 0 0 s.fx s.fy s.fa s.fb s.fd Q8E hs hb 5 0 1 2 3 4 6 _ _ _ _ Q8F Q8F Q8F Q8F Q8F Q8F Q8F Q8I) λv ms hR=>?_
 obtain⟨κ,hκ,rfl,rfl⟩:=hR
 repeat' (refine Ba ?_;first|refine Q4Z ?_|refine Bb (jc2 _ s.T hE 5 0 1 2 3 4 _ _ _ _ _ Q8F Q8F Q8F Q8F Q8F Q8F Q8I) ?_|refine Bb (jc3 _ s.T hE 5 0 1 2 3 4 _ _ _ _ _ Q8F Q8F Q8F Q8F Q8F Q8F Q8I) ?_|fail)
 refine Ba ?_
 refine qe0 {s with bl:=s.bn-1,seq:=s.seq+1,tx:=now+s.te} g 0 1 2 3 4 [6] qop (λi hi=>.inl Q8U) Q8F rfl rfl rfl (jid (D:={s.nd g with seq:=s.seq+1}) (f:=1) (t:=2) (b:=3) (m:=4) (f':=1) (t':=2) (b':=3) (m':=4) Q8F Q8F Q8F Q8F) Q8F rfl rfl re7 Q8F Q8F rfl rfl re2 Q8F rfl rfl re2 Q8F (λk hk=>by simp at hk;omega) (λk hk d hd l hl=>?_) Q8B ?_
 .obtain rfl:k=6:=by simpa using hk
  obtain rfl:jkv _=d:=by simpa using hd
  have hl:l<16:=hl;generalize qcm _ _ _ _ _=HH;exact jn1 (p:=λj=>Safe1 HH (Chunk.f (jkv (outV 5 s.id s.boot s.seq now 0 0 0 0 0 s.fx s.fy s.fa s.fb s.fd fine)) j)) xb xb xb xb xb xb xb xb xb xb xb xb xb xb xb xb l hl
 refine Bt κ ⟨hκ,?_⟩
 refine Bc (.one (.slice Q8F)) ?_
 refine Bc Q8c ?_
 refine Bc ⟨⟨x7 rfl,_,rfl,id,nlr _,Q9t⟩,xb⟩ ?_
 refine Bc Q8a ?_
 exact Be
open Go Go.RowKit Sx
theorem jc5(n a b:Int)(w:World):xa 64 #[xc n,xc a,xc b] w (.bool (decide (a<=n/\n<=b))):=by
 refine qac (G:=tys) w tysOK mixed func64 Q8F Q8H Q8G ?_;exact Q1E
theorem jon(n a b:Int)(h:Hp):qae prog 64 [xc n,xc a,xc b] h (.bool (decide (a<=n/\n<=b))) [] []:=qai rfl rfl (call64 _) (jc5 n a b)
structure jkw(C:Nat->Int):Prop where
 h0:1<=C 0/\C 0<=64
 h1:1<=C 1/\C 1<=64
 h2:0<=C 2/\C 2<=1000
 h3:0<=C 3/\C 3<=1000
 h4:C 4=1
 h5:0<=C 5/\C 5<=1000
 h6:C 6=50
 h7:1<=C 7/\C 7<=10000
 h8:1<=C 8/\C 8<=1000
 h9:1<=C 9/\C 9<=100
 h10:2<=C 10/\C 10<=140737488355328
abbrev cfV(C:Nat->Int):Value:=.agg ⟨[xc (C 0),xc (C 1),xc (C 2),xc (C 3),xc (C 4),xc (C 5),xc (C 6),xc (C 7),xc (C 8),xc (C 9),xc (C 10)]⟩
theorem q8y(C:Nat->Int)(hC:jkw C)(w:World):xa 23 #[cfV C] w (.bool true):=by
 obtain⟨c0,c1,c2,c3,c4,c5,c6,c7,c8,c9,c10⟩:=hC;refine qac (G:=tys) w tysOK mixed func23 Q8F Q8H Q8G ?_;repeat' (refine Ba ?_;first|refine Q4Z ?_|refine Bb (jon _ _ _ _) ?_|refine Q5i ?_|fail)
 all_goals
  rw[c4,c6,show IntKind.i64.wrap (2*1)=2 by decide,show IntKind.i64.wrap (50+2)=52 by decide,show IntKind.i64.wrap (52+2)=54 by decide,jep (C 9*54) Q8E Q8E]
  exact congrArg Value.bool (xf Q8E)
theorem jc6(C:Nat->Int)(hC:jkw C)(h:Hp):qae prog 23 [cfV C] h (.bool true) [] []:=qai rfl rfl (call23 _) (q8y C hC)
theorem q55(x y:Operand)(a b c d e p q r s t:Int):BinIs prog .eql 27 x y (.agg ⟨[xc a,xc b,xc c,xc d,xc e]⟩) (.agg ⟨[xc p,xc q,xc r,xc s,xc t]⟩) (.bool (a==p&&(b==q&&(c==r&&(d==s&&e==t))))):=
 Q7E
theorem jc7(x y:Operand)(a b c d e p q r s t:Int):BinIs prog .neq 27 x y (.agg ⟨[xc a,xc b,xc c,xc d,xc e]⟩) (.agg ⟨[xc p,xc q,xc r,xc s,xc t]⟩) (.bool !(a==p&&(b==q&&(c==r&&(d==s&&e==t))))):=
 Q7E
theorem joo(a b c d e:Int):(!(a==0&&(b==0&&(c==0&&(d==0&&e==0)))))=decide (¬ (a=0/\b=0/\c=0/\d=0/\e=0)):=by
 grind
abbrev jhc(C:Nat->Int)(id boot:Int)(v:Bool)(x y a b d:Int):NSt:=⟨C,id,boot,0,-1,-1,0,max 2 (C 10),v,x,y,a,b,d,Tbl.new (C 1),max 0 (min (C 9) 1000),max 0 (min (C 9) 1000),max 1 (min (C 8) 1000000),0,λ_=>Ses.o⟩
theorem jqx{α:Type}(a:α)(i:Nat):upd (λ_:Nat=>a) i a=λ_=>a:=by grind[upd]
abbrev nwC(C:Nat->Int)(id boot:Int)(s:Nat×(Rz)):Chunk:=@Chunk.mk (jex jfa s.1 s.2 λ_=>Ses.o) true 85 [(79,6,.agg #[xd 10,xd 14,xc 0,xc (-1),xc (-1),xc 0]),(15,64,.agg ⟨(List.range 64).map λi=>if i<s.1 then je0 (s.2 i) else .pointer none⟩),(0,15,.agg #[xc (C 0),xc (C 1),xc (C 2),xc (C 3),xc (C 4),xc (C 5),xc (C 6),xc (C 7),xc (C 8),xc (C 9),xc (C 10),xc id,xc boot,xd 2,xd 6])]
theorem Bz{P:Program}{g:FuncId}{vs:List Value}{h:Hp}{slot:Nat}{C:List Nat->Prop}{K:List Nat->Value->Mz->Prop}(hs:List Nat)(R:Value->Mz->Prop)(hC:C hs)(hc:∀h₂:Hp,(∀q∈hs,h₂[q]?=h[q]?)->CallAll P g vs h₂ R)(k:∀v ms,R v ms->(∀q∈ms.map (·.1),q∈hs)/\K hs v ms):N (jia P g vs h slot C K):=N.mk ⟨hs,R,hC,hc,k⟩
theorem jop(C:Nat->Int)(id boot:Int)(s:Nat×(Rz))(j:Nat)(hj:j<64):(nwC C id boot s).f (15+j)=if j<s.1 then je0 (s.2 j) else .pointer none:=Q3s
theorem jlx(C:Nat->Int)(id boot:Int)(i:Nat)(g:Rz)(q:Nat×Nat)(hi:i<64){p:Nat}(hp:p=15+i):Writes (@Chunk.mk (jex jfa (i+1) (upd g i q) (upd (λ_=>Ses.o) i Ses.o)) true 85 (nwC C id boot (i,g)).ps) p 1 (je0 q) (nwC C id boot (i+1,upd g i q)):=by
 subst hp;refine⟨rfl,by show 15+i+1<=85;omega,by show(85,jex jfa (i+1) (upd g i q) λ_=>Ses.o)=(85,jex jfa (i+1) (upd g i q) (upd (λ_=>Ses.o) i Ses.o));rw[jqx],jmr (λj hj=>?_) Q9i Q9i Q9i Q9i Q9i Q9i Q9i Q9i Q9i Q9i Q9i Q9i Q9i Q9i Q9i Q9i Q9i Q9i Q9i Q9i Q9i⟩;rw[jop _ _ _ _ j hj];show _=if _ then _ else (nwC C id boot (i,g)).f (15+j);rw[jop _ _ _ _ j hj];by_cases e:j=i
 .subst e;rw[if_pos (Nat.lt_succ_self _),if_pos Q8E,show 15+j-(15+j)=0 by omega];show je0 (upd g j q j)=_;rw[upd_at];rfl
 grind[qqy]
theorem joq(C:Nat->Int)(id boot:Int)(g:Rz)(s:NSt)(h1:s.C=C)(h2:s.id=id)(h3:s.boot=boot)(h4:s.seq=0)(h5:s.told = -1)(h6:s.asked = -1)(h7:s.bad=0):∀j,j<85->Re1 [(0,18),(1,2),(2,6),(3,10),(4,14)] ((nwC C id boot (64,g)).f j) ((ndC (s.nd g) 1 2 3 4).f j):=by
 obtain⟨C',id',boot',sq,td,ak,bd,_⟩:=s;simp only at h1 h2 h3 h4 h5 h6 h7;subst h1 h2 h3 h4 h5 h6 h7;refine jmr (λj hj=>?_) (.plain rfl) (.plain rfl) (.plain rfl) (.plain rfl) (.plain rfl) (.plain rfl) (.plain rfl) (.plain rfl) (.plain rfl) (.plain rfl) (.plain rfl) (.plain rfl) (.plain rfl) (.ptr rfl) (.ptr rfl) (.ptr rfl) (.ptr rfl) (.plain rfl) (.plain rfl) (.plain rfl) (.plain rfl);have e:∀D f t b m,(ndC D f t b m).f (15+j)=je0 (D.g j):=λD f t b m=>Q3s
 rw[jop _ _ _ _ j hj,e,if_pos hj];exact .plain rfl
theorem jc8(C:Nat->Int)(id boot:Int)(g:Rz):ChunkLe (nwC C id boot (0,g)) ⟨true,85,[(0,85,.agg ⟨[xc (C 0),xc (C 1),xc (C 2),xc (C 3),xc (C 4),xc (C 5),xc (C 6),xc (C 7),xc (C 8),xc (C 9),xc (C 10),xc id,xc boot,xd 2,xd 6,.pointer none,.pointer none,.pointer none,.pointer none,.pointer none,.pointer none,.pointer none,.pointer none,.pointer none,.pointer none,.pointer none,.pointer none,.pointer none,.pointer none,.pointer none,.pointer none,.pointer none,.pointer none,.pointer none,.pointer none,.pointer none,.pointer none,.pointer none,.pointer none,.pointer none,.pointer none,.pointer none,.pointer none,.pointer none,.pointer none,.pointer none,.pointer none,.pointer none,.pointer none,.pointer none,.pointer none,.pointer none,.pointer none,.pointer none,.pointer none,.pointer none,.pointer none,.pointer none,.pointer none,.pointer none,.pointer none,.pointer none,.pointer none,.pointer none,.pointer none,.pointer none,.pointer none,.pointer none,.pointer none,.pointer none,.pointer none,.pointer none,.pointer none,.pointer none,.pointer none,.pointer none,.pointer none,.pointer none,.pointer none,xd 10,xd 14,xc 0,xc (-1),xc (-1),xc 0]⟩)]⟩:=ChunkLe.mk (λh=>h) (nlr _) (λj hj=>by
 match j,hj with
 | 0,_=>exact rfl
 | 1,_=>exact rfl
 | 2,_=>exact rfl
 | 3,_=>exact rfl
 | 4,_=>exact rfl
 | 5,_=>exact rfl
 | 6,_=>exact rfl
 | 7,_=>exact rfl
 | 8,_=>exact rfl
 | 9,_=>exact rfl
 | 10,_=>exact rfl
 | 11,_=>exact rfl
 | 12,_=>exact rfl
 | 13,_=>exact rfl
 | 14,_=>exact rfl
 | 15,_=>exact rfl
 | 16,_=>exact rfl
 | 17,_=>exact rfl
 | 18,_=>exact rfl
 | 19,_=>exact rfl
 | 20,_=>exact rfl
 | 21,_=>exact rfl
 | 22,_=>exact rfl
 | 23,_=>exact rfl
 | 24,_=>exact rfl
 | 25,_=>exact rfl
 | 26,_=>exact rfl
 | 27,_=>exact rfl
 | 28,_=>exact rfl
 | 29,_=>exact rfl
 | 30,_=>exact rfl
 | 31,_=>exact rfl
 | 32,_=>exact rfl
 | 33,_=>exact rfl
 | 34,_=>exact rfl
 | 35,_=>exact rfl
 | 36,_=>exact rfl
 | 37,_=>exact rfl
 | 38,_=>exact rfl
 | 39,_=>exact rfl
 | 40,_=>exact rfl
 | 41,_=>exact rfl
 | 42,_=>exact rfl
 | 43,_=>exact rfl
 | 44,_=>exact rfl
 | 45,_=>exact rfl
 | 46,_=>exact rfl
 | 47,_=>exact rfl
 | 48,_=>exact rfl
 | 49,_=>exact rfl
 | 50,_=>exact rfl
 | 51,_=>exact rfl
 | 52,_=>exact rfl
 | 53,_=>exact rfl
 | 54,_=>exact rfl
 | 55,_=>exact rfl
 | 56,_=>exact rfl
 | 57,_=>exact rfl
 | 58,_=>exact rfl
 | 59,_=>exact rfl
 | 60,_=>exact rfl
 | 61,_=>exact rfl
 | 62,_=>exact rfl
 | 63,_=>exact rfl
 | 64,_=>exact rfl
 | 65,_=>exact rfl
 | 66,_=>exact rfl
 | 67,_=>exact rfl
 | 68,_=>exact rfl
 | 69,_=>exact rfl
 | 70,_=>exact rfl
 | 71,_=>exact rfl
 | 72,_=>exact rfl
 | 73,_=>exact rfl
 | 74,_=>exact rfl
 | 75,_=>exact rfl
 | 76,_=>exact rfl
 | 77,_=>exact rfl
 | 78,_=>exact rfl
 | 79,_=>exact rfl
 | 80,_=>exact rfl
 | 81,_=>exact rfl
 | 82,_=>exact rfl
 | 83,_=>exact rfl
 | 84,_=>exact rfl
 | k+85,h=>exact absurd (show k+85<85 from h) Q8E
) (qwa _ _ _)
theorem qls(C:Nat->Int)(hC:jkw C)(id boot:Int)(hid:0<=id/\id<64)(hbo:jgd boot)(x y a b d:Int)(hm:mayP x y a b d)(ho:¬ max 2 (C 10)<a+d)(K:Nat)(h:Hp)(hK:h[K]?=some none):
  qae prog 7 [cfV C,xc id,xc boot,elV x y a b d] h (xd K) [(K,ndP (jhc C id boot true x y a b d))] []:=by
 refine qaq (G:=tys) (λ_:Unit=>True) (λ_=>[]) [] [⟨K,18,ndP (jhc C id boot true x y a b d)⟩] [cfV C,xc id,xc boot,elV x y a b d] tysOK mixed func7 Q8F (call7) xb xb xb xb ⟨⟨hK,rfl,.inr qba,by simp⟩,xb⟩ ⟨.plain rfl,.plain rfl,.plain rfl,.plain rfl,xb⟩ Opens.same ?_
 have hz:¬ (x=0/\y=0/\a=0/\b=0/\d=0):=λh=>(by unfold mayP at hm;omega)
 rintro⟨⟩ -
 repeat' (refine Ba ?_;first|refine Q4Z ?_|refine Bb (qcw boot _) ?_|refine Bb (jc6 C hC _) ?_|refine Q5L ?_|refine Br _ (jc7 _ _ _ _ _ _ _ _ _ _ _ _) ?_|refine Bb (jbt _ 2 _ Q8F) ?_|refine Bb (jm9 _ 6 _ Q8F) ?_|refine Bb (jbu _ 10 _ Q8F) ?_|refine Bb (jbv _ 14 _ Q8F) ?_|refine Q5e ?_|refine Bf (by rw[xf hbo];rfl) ?_|refine Q5d ?_|refine Bg (by rw[joo,xh];exact hz) ?_|refine Bf Q9Q ?_|fail)
 refine Ba ?_
 refine Bo (α:=Nat×(Rz)) (λs=>s.1<=64) (λs=>64-s.1) (λs=>[(54,xc s.1)]) (λs=>[(18,nwC C id boot s)]) (0,λ_=>(0,0)) Q8I ?_ ?_
 .repeat' (refine Ba ?_;first|refine Q4Z ?_|refine Q5y ?_|refine Bc (jc8 C id boot _) ?_|exact Be|fail)
 rintro⟨i,g⟩ hi
 have hi:i<=64:=hi
 refine Ba ?_
 refine Bi (λhb=>?_) (λhb=>?_)
 .have hb:i<64:=by have:=of_decide_eq_true hb;omega
  refine Q2d ?_;refine Bv ?_;refine Ba ?_;refine Bu [0,1,3,4,5] [(2,[6])] Q8J ?_;refine Q2d ?_;refine Bz [18,19] _ Q8J (λh₂ hh=>q74 18 19 i g (λ_=>Ses.o) ((hh 18 Q8P).trans rfl) ((hh 19 Q8P).trans rfl)) λv ms hR=>?_
  obtain⟨q,rfl,rfl⟩:=hR;refine⟨by simp,?_⟩;repeat' (refine Ba ?_;first|refine Q52 ?_|refine Q54 ?_|refine Q5M ?_|refine Q6j ?_|refine N.store _ (jlx C id boot i g _ hb Q8E) ?_|fail)
  refine Ba ?_;refine N.next (i+1,upd g i q) ⟨by show i+1<=64;omega,by show 64-(i+1)<64-i;omega⟩ ?_;repeat' (refine Ba ?_;first|refine Q4Z ?_|refine Q5y ?_|refine Bc (by rw[jep _ Q8E Q8E];rfl) ?_|exact Be|fail)
 .have hb:¬ i<64:=by have:=of_decide_eq_false hb;omega
  repeat' (refine Ba ?_;first|refine Q4Z ?_|refine Bb (qze _ _ _ _ _ _ _ x y a b d 2 _ Q8F hm ho) ?_|fail)
  refine Ba ?_;obtain rfl:i=64:=by omega
  refine qe0 (jhc C id boot true x y a b d) g 18 2 6 10 14 [] (λl _ hl=>absurd hl Q8P) (λi hi=>absurd hi Q8P) Q8F rfl rfl rfl (joq C id boot g (jhc C id boot true x y a b d) rfl rfl rfl rfl rfl rfl rfl) Q8F rfl rfl re7 Q8F Q8F rfl rfl re2 Q8F rfl rfl re2 Q8F (λk hk=>by cases hk) (λk hk=>by cases hk) (λρ ρ' ha=>by have:=ha 18 ⟨_,rfl⟩;simp[den,den2,den1,den0,jfd,this]) ?_;refine Bc (.one (.ptr rfl)) ?_;refine Bc xb ?_;refine Bc ⟨⟨xn _,_,rfl,λh=>h,nlr _,nzj⟩,xb⟩ ?_;refine Bc Q8w ?_;exact Be
open Go Go.RowKit Sx
abbrev md(a m:Int):Int:=IntKind.i64.wrap ((IntKind.u64.wrap a).tmod m)
theorem jij(a m:Int)(h0:0<m)(h1:m<=9223372036854775807):0<=md a m/\md a m<m:=ja3 a m h0 h1
abbrev cf6(a b c d g f:Int):Nat->Int:=λk=>match k with
 | 0=>1+md a 8
 | 1=>1+md b 6
 | 2=>md c 40
 | 3=>md d 10
 | 4=>1
 | 5=>10
 | 6=>50
 | 7=>30
 | 8=>1+md g 6
 | 9=>1+md f 8
 | _=>1000000000000
theorem qm3(a b c d g f:Int):jkw (cf6 a b c d g f):=by
 have k0:=jij a 8 Q8I Q8I;have k1:=jij b 6 Q8I Q8I;have k2:=jij c 40 Q8I Q8I;have k3:=jij d 10 Q8I Q8I;have k4:=jij g 6 Q8I Q8I;have k5:=jij f 8 Q8I Q8I;refine⟨?_,?_,?_,?_,rfl,?_,rfl,?_,?_,?_,?_⟩<;>simp only[cf6]<;>omega
theorem q3v(a b c d g f:Int)(w:World):xa 6 #[xc a,xc b,xc c,xc d,xc g,xc f] w (cfV (cf6 a b c d g f)):=by
 have k0:=jij a 8 Q8I Q8I;have k1:=jij b 6 Q8I Q8I;have k4:=jij g 6 Q8I Q8I;have k5:=jij f 8 Q8I Q8I;refine qac (G:=tys) w tysOK mixed func6 Q8F Q8H Q8G ?_;repeat' (refine Ba ?_;first|refine Q4Z ?_|fail)
 all_goals
  simp only[cfV,cf6]
  rw[jep (1+md a 8) Q8E Q8E,jep (1+md b 6) Q8E Q8E,jep (1+md g 6) Q8E Q8E,jep (1+md f 8) Q8E Q8E]
theorem qlt(a b c d g f:Int)(h:Hp):qae prog 6 [xc a,xc b,xc c,xc d,xc g,xc f] h (cfV (cf6 a b c d g f)) [] []:=qai rfl rfl (call6 _) (q3v a b c d g f)
abbrev rpV(v:Bool)(x y a b d:Int)(s:Value):Value:=.agg ⟨[.bool v,xc x,xc y,xc a,xc b,xc d,s]⟩
theorem qz9(w:World):xa 13 #[] w (.bool true):=by
 refine qac (G:=tys) w tysOK mixed func13 Q8F Q8F Q8F ?_;repeat' (refine Ba ?_;first|refine Q4Z ?_|refine Q61 ?_|fail)
 refine Ba ?_;refine Bh (jc4 (jhc (cf6 3 3 5 1 4 4) 2 7 true 0 0 64 0 64) rfl rfl 0 100 Q8I Q8I Q8I Q8I Q8I Q8I 2 5 _ Q8F Q8F) λv ms hR=>?_
 obtain⟨κ,hκ,rfl,rfl⟩:=hR;repeat' (refine Ba ?_;first|refine Q4Z ?_|refine Q61 ?_|fail)
 all_goals rfl
theorem qfk(h:Hp):qae prog 13 [] h (.bool true) [] []:=qai rfl rfl (call13 _) qz9
theorem q8z(m:Int)(v:Bool)(x y a b d:Int)(i:Nat)(h:Hp)(hi:h[i]?=some (some (fiC m v x y a b d)))  : qae prog 168 [xd i] h (.tuple #[]) [(i,fiC m false 0 0 0 0 0)] []:=by
 refine qak (G:=tys) [⟨i,_,fiC m v x y a b d,fiC m false 0 0 0 0 0⟩] [] [xd 0] tysOK mixed func168 Q8F (call168) ⟨hi,xb⟩ ⟨Q7A,xb⟩ Q8K xb ⟨.ptr rfl,xb⟩ ?_;exact Q19
open Go Go.RowKit Sx
theorem qm4(e:El)(of:Int->El×Int)(more:List El):(qbn e of more).2=0\/qbn e of more=(El.o,3):=by
 grind[qbn]
theorem qgu{f:El}(he:e.may)(hf:f.may):((jes e f).2=0/\(jes e f).1.may)\/jes e f=(El.o,3):=by
 have e0:jes e f=qbn e (jel e f) [f]:=by unfold jes;rw[if_pos ⟨he,hf⟩]
 rw[e0];rcases qm4 e (jel e f) [f] with h|h
 .refine .inl ⟨h,?_⟩;rcases qh4 (λr=>r.may) (e:=e) (of:=jel e f) (more:=[f]) he (λw g hg=>by
   grind[jel,qz0]) (λx hx=>by simp at hx;subst hx;exact hf) (r:=(qbn e (jel e f) [f]).1) (c:=(qbn e (jel e f) [f]).2) rfl with ⟨_,h2,_⟩|⟨h2,_⟩
  .exact h2
  .omega
 simp_all
theorem qoq{s:Strip}(he:e.may)(hs:s.may):((jf4 e s).2=0/\(jf4 e s).1.may)\/jf4 e s=(El.o,3):=by
 have e0:jf4 e s=qbn e (jem e s) []:=by unfold jf4;rw[if_pos ⟨he,hs⟩]
 rw[e0];rcases qm4 e (jem e s) [] with h|h
 .refine .inl ⟨h,?_⟩;rcases qh4 (λr=>r.may) (e:=e) (of:=jem e s) (more:=[]) he (λw g hg=>by
   grind[jem,qz0]) (λx hx=>by simp at hx) (r:=(qbn e (jem e s) []).1) (c:=(qbn e (jem e s) []).2) rfl with ⟨_,h2,_⟩|⟨h2,_⟩
  .exact h2
  .omega
 simp_all
theorem qq9(e n:El)(lo hi:Int)(he:e.may)(hn:n.may)(hd:jg4 lo hi):(je3 e n lo hi).2=0\/(je3 e n lo hi).2=3\/(je3 e n lo hi).2=7:=by
 grind[je3]
theorem qh5(x y r r':Int)(h:Hp)(e:r'=r)(hw:qaz 4194304 x y)(hr0:1<=r/\r<=4194304):qae prog 14 [.agg #[xc x,xc y],xc r'] h (.tuple #[elE (jez x y r),xc 0]) [] []:=by subst e;exact qli x y r' h hw hr0
theorem qlu(x y r r':Int)(h:Hp)(e:r'=r)(hr0:¬ (1<=r/\r<=4194304)):qae prog 14 [.agg #[xc x,xc y],xc r'] h (.tuple #[elE El.o,xc 1]) [] []:=by subst e;exact jbs x y r' h (λh=>hr0 h.2)
theorem q3w(e n:El)(lo hi:Int)(he:e.may)(hn:n.may)(hd:jg4 lo hi)(W:World):xa 173 #[elE e,elE n,xc lo,xc hi] W (.tuple #[elE (qbm e n lo hi).1,xc (qbm e n lo hi).2]):=by
 have hr:=(qlp hn).2.1;have hn2:=hn;have hd2:=hd;unfold El.may mayP at hn2;unfold jg4 at hd2;have w6:IntKind.i64.wrap (hi+n.rad)=hi+n.rad:=jep _ Q8E Q8E;by_cases hb:1<=hi+n.rad/\hi+n.rad<=4194304
 .have hbm:=q8q hn2.1 hb;rcases qgu he hbm with ⟨hf,hfm⟩|hf
  .have hN:jft e n hi=((jes e (jez n.x n.y (hi+n.rad))).1,0):=by unfold jft;rw[if_pos hb,if_neg Q8E,if_pos hf]
   have hU:qbm e n lo hi=qcd (jes e (jez n.x n.y (hi+n.rad))).1 n lo hi:=by unfold qbm;rw[if_pos ⟨he,hn,hd⟩,hN,if_neg Q8P]
   rw[hU];rcases qq9 (jes e (jez n.x n.y (hi+n.rad))).1 n lo hi hfm hn hd with hc|hc|hc
   .by_cases hs:(je3 (jes e (jez n.x n.y (hi+n.rad))).1 n lo hi).1.may
    .rcases qoq hfm hs with ⟨hk,_⟩|hk
     .rw[show qcd (jes e (jez n.x n.y (hi+n.rad))).1 n lo hi=((jf4 (jes e (jez n.x n.y (hi+n.rad))).1 (je3 (jes e (jez n.x n.y (hi+n.rad))).1 n lo hi).1).1,0) by unfold qcd;rw[if_neg Q8E,if_pos hc,if_neg Q8E,if_pos hk]];refine Q1r ?_;repeat' (first|(refine Ba ?_;first|refine Q4Z ?_|refine Q5h ?_|refine Q5I ?_|refine Q5m ?_|refine Q5F ?_|refine Bb (jkn (jes e (jez n.x n.y (hi+n.rad))).1 (je3 (jes e (jez n.x n.y (hi+n.rad))).1 n lo hi).1 _ hfm hs) ?_|refine Q6N ?_|fail)|refine qah Q8F ?_)
      all_goals rfl
     .rw[show qcd (jes e (jez n.x n.y (hi+n.rad))).1 n lo hi=(El.o,3) by unfold qcd;rw[if_neg Q8E,if_pos hc,hk,if_pos rfl]];refine Q1r ?_;repeat' (first|(refine Ba ?_;first|refine Q4Z ?_|refine Q5h ?_|refine Q5I ?_|refine Q5m ?_|refine Q5F ?_|refine Bb (q52 (jes e (jez n.x n.y (hi+n.rad))).1 (je3 (jes e (jez n.x n.y (hi+n.rad))).1 n lo hi).1 El.o 3 _ hk hfm hs) ?_|refine Q5w ?_|fail)|refine qah Q8F ?_)
      all_goals rfl
    .have hk:jf4 (jes e (jez n.x n.y (hi+n.rad))).1 (je3 (jes e (jez n.x n.y (hi+n.rad))).1 n lo hi).1=(El.o,1):=by unfold jf4;rw[if_neg (λh=>hs h.2)]
     rw[show qcd (jes e (jez n.x n.y (hi+n.rad))).1 n lo hi=((jes e (jez n.x n.y (hi+n.rad))).1,0) by unfold qcd;rw[if_neg Q8E,if_pos hc,hk,if_neg Q8I,if_neg Q8I]];refine Q1r ?_;repeat' (first|(refine Ba ?_;first|refine Q4Z ?_|refine Q5h ?_|refine Q5I ?_|refine Q5m ?_|refine Q5F ?_|refine Bb (q53 (jes e (jez n.x n.y (hi+n.rad))).1 (je3 (jes e (jez n.x n.y (hi+n.rad))).1 n lo hi).1 _ hfm hs) ?_|refine Q5w ?_|fail)|refine qah Q8F ?_)
     all_goals rfl
   .rw[show qcd (jes e (jez n.x n.y (hi+n.rad))).1 n lo hi=(El.o,3) by unfold qcd;rw[if_pos hc]];refine Q1r ?_;repeat' (first|(refine Ba ?_;first|refine Q4Z ?_|refine Q5h ?_|refine Q5I ?_|refine Q5m ?_|refine Q5F ?_|refine Q5w ?_|fail)|refine qah Q8F ?_)
    all_goals first|rfl|(rw[hc])
   .rw[show qcd (jes e (jez n.x n.y (hi+n.rad))).1 n lo hi=((jes e (jez n.x n.y (hi+n.rad))).1,0) by unfold qcd;rw[if_neg Q8E,if_neg Q8E]];refine Q1r ?_;repeat' (first|(refine Ba ?_;first|refine Q4Z ?_|refine Q5h ?_|refine Q5I ?_|refine Q5m ?_|refine Q5F ?_|refine Q5w ?_|fail)|refine qah Q8F ?_)
    all_goals rfl
  .have hU:qbm e n lo hi=(El.o,3):=by
    unfold qbm jft;rw[if_pos ⟨he,hn,hd⟩,if_pos hb,hf];rfl
   rw[hU];refine Q1r ?_;repeat' (first|(refine Ba ?_;first|refine Q4Z ?_|refine Q5h ?_|refine Bb (jhx n _) ?_|refine Bb (qh5 n.x n.y (hi+n.rad) _ _ w6 hn2.1 hb) ?_|refine Bb (q8t e (jez n.x n.y (hi+n.rad)) El.o 3 _ hf he hbm) ?_|refine Q5m ?_|fail)|refine qah Q8F ?_)
   all_goals rfl
 .have hN:jft e n hi=(e,0):=by unfold jft;rw[if_neg hb]
  have hU:qbm e n lo hi=qcd e n lo hi:=by unfold qbm;rw[if_pos ⟨he,hn,hd⟩,hN,if_neg Q8P]
  rw[hU];rcases qq9 e n lo hi he hn hd with hc|hc|hc
  .by_cases hs:(je3 e n lo hi).1.may
   .rcases qoq he hs with ⟨hk,_⟩|hk
    .rw[show qcd e n lo hi=((jf4 e (je3 e n lo hi).1).1,0) by unfold qcd;rw[if_neg Q8E,if_pos hc,if_neg Q8E,if_pos hk]];refine Q1r ?_;repeat' (first|(refine Ba ?_;first|refine Q4Z ?_|refine Q5h ?_|refine Q6c ?_|refine Q5d ?_|refine Q6L ?_|refine Bb (jkn e (je3 e n lo hi).1 _ he hs) ?_|refine Q6N ?_|fail)|refine qah Q8F ?_)
     all_goals rfl
    .rw[show qcd e n lo hi=(El.o,3) by unfold qcd;rw[if_neg Q8E,if_pos hc,hk,if_pos rfl]];refine Q1r ?_;repeat' (first|(refine Ba ?_;first|refine Q4Z ?_|refine Q5h ?_|refine Q6c ?_|refine Q5d ?_|refine Q6L ?_|refine Bb (q52 e (je3 e n lo hi).1 El.o 3 _ hk he hs) ?_|refine Q5w ?_|fail)|refine qah Q8F ?_)
     all_goals rfl
   .have hk:jf4 e (je3 e n lo hi).1=(El.o,1):=by unfold jf4;rw[if_neg (λh=>hs h.2)]
    rw[show qcd e n lo hi=(e,0) by unfold qcd;rw[if_neg Q8E,if_pos hc,hk,if_neg Q8I,if_neg Q8I]];refine Q1r ?_;repeat' (first|(refine Ba ?_;first|refine Q4Z ?_|refine Q5h ?_|refine Q6c ?_|refine Q5d ?_|refine Q6L ?_|refine Bb (q53 e (je3 e n lo hi).1 _ he hs) ?_|refine Q5w ?_|fail)|refine qah Q8F ?_)
    all_goals rfl
  .rw[show qcd e n lo hi=(El.o,3) by unfold qcd;rw[if_pos hc]];refine Q1r ?_;repeat' (first|(refine Ba ?_;first|refine Q4Z ?_|refine Q5h ?_|refine Q6c ?_|refine Q5d ?_|refine Q6L ?_|refine Q5w ?_|fail)|refine qah Q8F ?_)
   all_goals first|rfl|(rw[hc])
  .rw[show qcd e n lo hi=(e,0) by unfold qcd;rw[if_neg Q8E,if_neg Q8E]];refine Q1r ?_;repeat' (first|(refine Ba ?_;first|refine Q4Z ?_|refine Q5h ?_|refine Q6c ?_|refine Q5d ?_|refine Q6L ?_|refine Q5w ?_|fail)|refine qah Q8F ?_)
   all_goals rfl
theorem q80(e n:El)(lo hi:Int)(h:Hp)(he:e.may)(hn:n.may)(hd:jg4 lo hi):qae prog 173 [elE e,elE n,xc lo,xc hi] h (.tuple #[elE (qbm e n lo hi).1,xc (qbm e n lo hi).2]) [] []:=
 qai rfl rfl (call173 _) (q3w e n lo hi he hn hd)
theorem q0a(n:El)(hi:Int)(hn:n.may)(hd:0<=hi/\hi<=4194304)(W:World):xa 174 #[elE n,xc hi] W (.tuple #[elE (qb7 n hi).1,xc (qb7 n hi).2]):=by
 have hr:=(qlp hn).2.1;have hn2:=hn;unfold El.may mayP at hn2;have w6:IntKind.i64.wrap (hi+n.rad)=hi+n.rad:=jep _ Q8E Q8E;unfold qb7;rw[if_pos ⟨hn,hd⟩];by_cases hb:4194304<hi+n.rad
 .rw[if_pos hb];refine qac (G:=tys) W tysOK mixed func174 Q8F Q8F Q8F ?_;repeat' (first|(refine Ba ?_;first|refine Q4Z ?_|refine Q5L ?_|refine Bf (ndF hn) ?_|refine Q5e ?_|refine Bb (jhx n _) ?_|refine Bg (by rw[xh,w6];exact hb) ?_)|refine qah Q8F ?_)
  all_goals rfl
 .rw[if_neg hb];refine qac (G:=tys) W tysOK mixed func174 Q8F Q8F Q8F ?_;repeat' (first|(refine Ba ?_;first|refine Q4Z ?_|refine Q5L ?_|refine Bf (ndF hn) ?_|refine Q5e ?_|refine Bb (jhx n _) ?_|refine Bf (by rw[xj,w6];exact hb) ?_|refine Q67 ?_|refine Bb (qh5 n.x n.y (max 1 (hi+n.rad)) _ _ (by rw[w6]) hn2.1 Q8E) ?_)|refine qah Q8F ?_)
  all_goals rfl
theorem qu0(n:El)(hi:Int)(h:Hp)(hn:n.may)(hd:0<=hi/\hi<=4194304):qae prog 174 [elE n,xc hi] h (.tuple #[elE (qb7 n hi).1,xc (qb7 n hi).2]) [] []:=
 qai rfl rfl (call174 _) (q0a n hi hn hd)
theorem neB{a:Int}(h:¬ a=0):(a != 0)=true:=by simpa using h
abbrev fiF(f:Flr):Chunk:=fiC f.most f.valid f.e.x f.e.y f.e.a f.e.b f.e.d
theorem fi_re{f:Flr}:((fiF f).own=true->(fiF f).own=true/\7<=(fiF f).n)/\(fiF f).n<=(fiF f).n/\qbh ix (fiF f) (fiF f):=by grind[re7]
def jkx(f:Flr)(e:El):Int:=if e.may then (if f.most<e.tr then 2 else 0) else 1
theorem q0b(f:Flr)(e:El)(i:Nat)(h:Hp)(hi:h[i]?=some (some (fiF f))):qae prog 30 [xd i,elE e] h (xc (jkx f e)) [(i,fiF (f.set e))] []:=by
 unfold jkx Flr.set;by_cases hm:e.may
 .have ht:=trf hm;rw[if_pos hm];by_cases ho:f.most<e.tr
  .rw[if_pos ho,if_neg (λh=>by omega)];exact q7z f.most f.valid f.e.x f.e.y f.e.a f.e.b f.e.d e.x e.y e.a e.b e.d i h hi hm Q8E
  .rw[if_neg ho,if_pos ⟨hm,by omega⟩];exact qze f.most f.valid f.e.x f.e.y f.e.a f.e.b f.e.d e.x e.y e.a e.b e.d i h hi hm Q8E
 .rw[if_neg hm,if_neg (λh=>hm h.1)];exact q7y f.most f.valid f.e.x f.e.y f.e.a f.e.b f.e.d e.x e.y e.a e.b e.d i h hi hm
theorem q0c(f:Flr)(r:El)(c:Int)(hc:c=0\/c=3\/c=1)(i:Nat)(h:Hp)(hi:h[i]?=some (some (fiF f))):qae prog 143 [xd i,elE r,xc c] h (xc c) [(i,fiF (f.took (r,c)))] []:=by
 rcases hc with rfl|rfl|rfl
 .refine qak (G:=tys) [⟨i,_,fiF f,fiF (f.took (r,0))⟩] [] [xd 0,elE r,xc 0] tysOK mixed func143 Q8F (call143) ⟨hi,xb⟩ ⟨fi_re,xb⟩ Q8K xb Q7c ?_;repeat' (first|(refine Ba ?_;first|refine Q4Z ?_|refine Q5m ?_|refine Q5d ?_|refine Q5x ?_|refine Q5o ?_|exact Be|fail)|refine qah Q8F ?_)
 .refine qak (G:=tys) [⟨i,_,fiF f,fiF (f.took (r,3))⟩] [] [xd 0,elE r,xc 3] tysOK mixed func143 Q8F (call143) ⟨hi,xb⟩ ⟨fi_re,xb⟩ Q8K xb Q7c ?_;repeat' (first|(refine Ba ?_;first|refine Q4Z ?_|refine Q5d ?_|refine Q5m ?_|refine Bb (q8z f.most f.valid f.e.x f.e.y f.e.a f.e.b f.e.d 0 _ Q8F) ?_|refine Q5x ?_|refine Q5o ?_|exact Be|fail)|refine qah Q8F ?_)
 .refine qak (G:=tys) [⟨i,_,fiF f,fiF (f.took (r,1))⟩] [] [xd 0,elE r,xc 1] tysOK mixed func143 Q8F (call143) ⟨hi,xb⟩ ⟨fi_re,xb⟩ Q8K xb Q7c ?_;repeat' (first|(refine Ba ?_;first|refine Q4Z ?_|refine Q5d ?_|refine Q5x ?_|refine Q5o ?_|exact Be|fail)|refine qah Q8F ?_)
theorem qsr(e n:El)(lo hi:Int):(qbm e n lo hi).2=0\/(qbm e n lo hi).2=3\/(qbm e n lo hi).2=1:=by
 grind[qbm,qcd]
theorem qwj(e n:El)(lo hi:Int)(he:e.may)(h:(qbm e n lo hi).2=0):(qbm e n lo hi).1.may:=by
 unfold qbm at *;split at h
 .rename_i hm;rw[if_pos hm];have hn:(jft e n hi).2=3\/(jft e n hi).1.may:=by
   unfold jft;split
   .rename_i hb;have hbm:(jez n.x n.y (hi+n.rad)).may:=qus (hm.2.1).1 hb
    grind[qgu]
   simp_all
  grind[qcd,jf4,qoq]
 .cases h
def qra(f:Flr)(n:El)(lo hi:Int):Int:=if f.valid then (qbm f.e n lo hi).2 else if (qb7 n hi).2=0 then jkx f (qb7 n hi).1 else (qb7 n hi).2
def jik(f:Flr)(e:El):Int:=if f.valid then (jes f.e e).2 else jkx f e
theorem q3x(f:Flr)(n:El)(lo hi:Int)(he:f.valid=true->f.e.may)(hn:n.may)(hd:jg4 lo hi)(i:Nat)(h:Hp)(hi':h[i]?=some (some (fiF f))):qae prog 148 [xd i,elE n,xc lo,xc hi] h (xc (qra f n lo hi)) [(i,fiF (f.range n lo hi))] []:=by
 rcases qd6 f.valid with hv|hv
 .rw[show f.range n lo hi=(if (qb7 n hi).2=0 then f.set (qb7 n hi).1 else f) by unfold Flr.range;rw[hv];rfl,show qra f n lo hi=(if (qb7 n hi).2=0 then jkx f (qb7 n hi).1 else (qb7 n hi).2) by unfold qra;rw[hv];rfl];have hd2:0<=hi/\hi<=4194304:=by have h1:=hd.1;have h2:=hd.2.1;have h3:=hd.2.2;omega
  by_cases ha:(qb7 n hi).2=0
  .rw[if_pos ha,if_pos ha];refine qak (G:=tys) [⟨i,_,fiF f,fiF (f.set (qb7 n hi).1)⟩] [] [xd 0,elE n,xc lo,xc hi] tysOK mixed func148 Q8F (call148) ⟨hi',xb⟩ ⟨fi_re,xb⟩ Q8K xb Q7K ?_;repeat' (first|(refine Ba ?_;first|refine Q4Z ?_|refine Q5d ?_|refine Bf hv ?_|refine Bb (qu0 n hi _ hn hd2) ?_|refine Bf (by rw[ha];rfl) ?_|refine Bb (q0b f (qb7 n hi).1 0 _ Q8F) ?_|refine Q5x ?_|refine Q5o ?_|exact Be|fail)|refine qah Q8F ?_)
  .rw[if_neg ha,if_neg ha];refine qak (G:=tys) [⟨i,_,fiF f,fiF f⟩] [] [xd 0,elE n,xc lo,xc hi] tysOK mixed func148 Q8F (call148) ⟨hi',xb⟩ ⟨fi_re,xb⟩ Q8K xb Q7K ?_;repeat' (first|(refine Ba ?_;first|refine Q4Z ?_|refine Q5d ?_|refine Bf hv ?_|refine Bb (qu0 n hi _ hn hd2) ?_|refine Bg (neB ha) ?_|refine Q5x ?_|refine Q5o ?_|exact Be|fail)|refine qah Q8F ?_)
 .rw[show f.range n lo hi=f.took (qbm f.e n lo hi) by unfold Flr.range;rw[hv];rfl,show qra f n lo hi=(qbm f.e n lo hi).2 by unfold qra;rw[hv];rfl];refine qak (G:=tys) [⟨i,_,fiF f,fiF (f.took (qbm f.e n lo hi))⟩] [] [xd 0,elE n,xc lo,xc hi] tysOK mixed func148 Q8F (call148) ⟨hi',xb⟩ ⟨fi_re,xb⟩ Q8K xb Q7K ?_;repeat' (first|(refine Ba ?_;first|refine Q4Z ?_|refine Q5d ?_|refine Bg hv ?_|refine Bb (q80 f.e n lo hi _ (he hv) hn hd) ?_|refine Bb (q0c f (qbm f.e n lo hi).1 (qbm f.e n lo hi).2 (qsr _ _ _ _) 0 _ Q8F) ?_|refine Q5x ?_|refine Q5o ?_|exact Be|fail)|refine qah Q8F ?_)
theorem q81(f:Flr)(e:El)(he:f.valid=true->f.e.may)(hm:e.may)(i:Nat)(h:Hp)(hi:h[i]?=some (some (fiF f))):qae prog 120 [xd i,elE e] h (xc (jik f e)) [(i,fiF (f.meet e))] []:=by
 rcases qd6 f.valid with hv|hv
 .rw[show f.meet e=f.set e by unfold Flr.meet;rw[hv];rfl,show jik f e=jkx f e by unfold jik;rw[hv];rfl];refine qak (G:=tys) [⟨i,_,fiF f,fiF (f.set e)⟩] [] [xd 0,elE e] tysOK mixed func120 Q8F (call120) ⟨hi,xb⟩ ⟨fi_re,xb⟩ Q8K xb Q79 ?_;repeat' (first|(refine Ba ?_;first|refine Q4Z ?_|refine Q5d ?_|refine Bf hv ?_|refine Bb (q0b f e 0 _ Q8F) ?_|refine Q5x ?_|refine Q5o ?_|exact Be|fail)|refine qah Q8F ?_)
 .rw[show f.meet e=f.took (jes f.e e) by unfold Flr.meet;rw[hv];rfl,show jik f e=(jes f.e e).2 by unfold jik;rw[hv];rfl];have hc:(jes f.e e).2=0\/(jes f.e e).2=3\/(jes f.e e).2=1:=by
   rcases qgu (he hv) hm with ⟨h1,_⟩|h1
   .exact .inl h1
   .exact .inr (.inl (by rw[h1]))
  refine qak (G:=tys) [⟨i,_,fiF f,fiF (f.took (jes f.e e))⟩] [] [xd 0,elE e] tysOK mixed func120 Q8F (call120) ⟨hi,xb⟩ ⟨fi_re,xb⟩ Q8K xb Q79 ?_;repeat' (first|(refine Ba ?_;first|refine Q4Z ?_|refine Q5d ?_|refine Bg hv ?_|refine Bb (qi7 f.e e _ (he hv) hm) ?_|refine Bb (q0c f (jes f.e e).1 (jes f.e e).2 hc 0 _ Q8F) ?_|refine Q5x ?_|refine Q5o ?_|exact Be|fail)|refine qah Q8F ?_)
end Go.Proofs.YtfkngpmgcimdbaaGreat
