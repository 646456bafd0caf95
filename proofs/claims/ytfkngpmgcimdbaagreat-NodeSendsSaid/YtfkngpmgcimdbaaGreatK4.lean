/-
  The walk of elder: who goes first.
-/
import Derived.Test.YtfkngpmgcimdbaaGreatRows
import Derived.Laws.Rows
import Derived.StillTailTactics
import Derived.Laws.CopyOwn
import Derived.Shelf.Small.Bits
import Derived.Shelf.Strconv.Itoa0
import Derived.Shelf.Bits.Mul64
import Derived.Laws.Externs
import Derived.Shelf.Spec.BitsCarry
import Derived.WalkKit
import Derived.Test.YtfkngpmgcimdbaaGreatProg
import Derived.BigQuiet
import Derived.Deep.QuietTactic
import Derived.Deep.RegionHeld3
import Derived.Lib.EndianBits
import Derived.Test.YtfkngpmgcimdbaaGreatK3
set_option linter.unusedVariables false
set_option linter.unusedSimpArgs false
set_option maxRecDepth 100000
set_option maxHeartbeats 20000000
theorem Go.Proofs.yy:type_of% @Nat.mul_add:=@Nat.mul_add
theorem Go.Proofs.xf:type_of% @decide_eq_false:=@decide_eq_false
theorem Go.Proofs.yd:type_of% @Nat.pow_pos:=@Nat.pow_pos
theorem Go.Proofs.yq:type_of% @Nat.pow_succ:=@Nat.pow_succ
theorem Go.Proofs.ya:type_of% @Nat.div_div_eq_div_mul:=@Nat.div_div_eq_div_mul
theorem Go.Proofs.xM:type_of% @Nat.div_eq_of_lt:=@Nat.div_eq_of_lt
theorem Go.Proofs.yr:type_of% @Nat.mod_one:=@Nat.mod_one
theorem Go.Proofs.yW:type_of% @Nat.mul_add_div:=@Nat.mul_add_div
theorem Go.Proofs.yb:type_of% @Nat.mul_le_mul_right:=@Nat.mul_le_mul_right
theorem Go.Proofs.zw:type_of% @Nat.mul_add_mod:=@Nat.mul_add_mod
theorem Go.Proofs.yX:type_of% @Int.eq_ofNat_of_zero_le:=@Int.eq_ofNat_of_zero_le
theorem Go.Proofs.yY:type_of% @Nat.div_one:=@Nat.div_one
theorem Go.Proofs.zj:type_of% @Nat.le_div_iff_mul_le:=@Nat.le_div_iff_mul_le
theorem Go.Proofs.yc:type_of% @Nat.pow_le_pow_right:=@Nat.pow_le_pow_right
theorem Go.Proofs.yO:type_of% @Nat.div_le_self:=@Nat.div_le_self
theorem Go.Proofs.yZ:type_of% @Nat.mul_le_mul_left:=@Nat.mul_le_mul_left
theorem Go.Proofs.zL:type_of% @Nat.mul_div_cancel:=@Nat.mul_div_cancel
open Go.Proofs.Tryz
namespace Go.Proofs
section
variable{Z Y:Prop}
theorem Q0R(k:Y)(h:Wr Y->Z:=by
 intro kQ;repeat' (refine Ba ?_;first|refine Q5V ?_|refine Q5R ?_|refine Bb (qh4 _ _ _) ?_|refine Q64 ?_|refine Q60 ?_|fail)
 refine Ba ?_;exact kQ.o):Z:=h ⟨k⟩
theorem Q1t(h:Z:=by
 go_wp2_with (first|(refine qn8 (ty:=122) rfl ?_;refine wpList_load_row ?_ 122 _ rfl (w.heap.size+1) rfl _ (sz (v / 2^k)) _ _ (hrow') underlying122 rfl Qa3 ?_;(focus rfl))|(refine qdx (ty:=122) rfl ?_;refine wpList_store_row ?_ 122 _ _ rfl (w.heap.size) (sz (v / 2^k)) rfl rfl _ (_) (hres) Qa3 Qa2 (qfu _) ?_;(focus rfl))|fail)
 have hl:=run_loadVar_row (P:=prog) (wr.setRow w.heap.size (sz (v / 2^k))) w.heap.size _ 122 (sz (v / 2^k)) _ _ (hres.row _) underlying122 rfl Qa3;refine bodyPost_ret (v:=.tuple #[.agg (sz (v / 2^k)),.bool _]) (by simp[results,Tryz.results237,asAddr,hl];rfl) rfl ⟨⟨_,rfl⟩,below_setRow hbel (nlr _) _⟩):Z:=h
theorem Q1z(h:Z:=by repeat' (refine Ba ?_;first|refine Q5V ?_|refine Q5R ?_|exact Be|refine Q6a ?_|refine Bc (qbz QaQ) ?_|fail)):Z:=h
theorem Q1P(h:Z:=by repeat' (refine Ba ?_;first|refine Q5V ?_|refine Q5R ?_|refine Q6o ?_|refine Bc xb ?_|exact Be|fail)):Z:=h
theorem Q2H(h:Z:=by
 rw[<-qfi];have:=IsRow.new (w.alloc (.cells (sz 0) 122)) (sz 0) 122;rw[show(w.alloc (.cells (sz 0) 122)).heap.size=w.heap.size+1 by simp] at this;exact this):Z:=h
theorem Q3h(h:Z:=by
 repeat' (refine Ba ?_;first|refine Q5V ?_|refine Q5R ?_|fail)
 all_goals simp):Z:=h
theorem Q3l(h:Z:=by
 by_cases e:m=n
 .subst e;rw[qbf] at hm;cases hm
 .rw[qcs _ _ e] at hm;unfold jfl;rw[if_neg e];exact h1 m hm):Z:=h
theorem Q3P(h:Z:=by
 intro v ms hR;obtain⟨q,_,rfl,rfl⟩:=hR;exact⟨q,rfl,rfl⟩):Z:=h
theorem Q4b(h:Z:=by
 go_wp2_with fail
 go_roundw
 case rel=>exact⟨n+1,by omega,by go_num,hrow1,hres1,hbel1⟩
 case measure=>simp[intOf];omega):Z:=h
theorem Q4l(h:Z:=by
 go_wp2_with fail
 go_roundw
 case rel=>exact⟨n,by omega,by go_num,hrow1,hres1,hbel1⟩
 case measure=>simp[intOf]):Z:=h
theorem Q4q(h:Z:=by
 by_cases e:m=n
 .subst e;rw[qbf] at hs;exact .inl ⟨rfl,by simpa using hs.symm⟩
 .rw[qcs _ _ e] at hs;exact .inr ⟨e,hs⟩):Z:=h
theorem Q4A(k:Y)(h:Wr Y->Z:=by
 intro kQ;refine Q0R ?_;refine Bi r 1 rfl hlt ?_;refine Ba ?_;refine Bk _ (jjp r rfl Q9R Qaj) ?_;refine Q0R ?_;exact kQ.o):Z:=h ⟨k⟩
theorem Q4C(h:Z:=by
 have e:q*(y1*h+y0)=q*y1*h+q*y0:=by rw[yy,xR]
 rw[e,<-hs,xy,xk r h];omega):Z:=h
theorem Q4L(h:Z:=by obtain⟨rfl,rfl⟩:=Prod.mk.inj he;exact⟨ok,hk,rfl⟩):Z:=h
theorem Q55(h:Z:=by
 obtain⟨rfl,rfl⟩:=Prod.mk.inj he;exact win _ _ (hk.beg n) hb (by show 1<_;decide)):Z:=h
theorem Q5a(h:Z:=by
 refine N.next (r+1) ⟨⟨by omega,hlt⟩,by omega⟩ ?_;rw[hst];exact Q1z):Z:=h
theorem Q5j(h:Z:=by exact absurd hj (yg j)):Z:=h
theorem Q5t(h:Z:=by
 rw[<-qfi];exact(IsRow.new _ _ _).alloc _):Z:=h
theorem Q5K(h:Z:=by
 have:=qkn a b i;have h:=je9 (a+b) i;simp only[Bs] at this;omega):Z:=h
theorem Q5O(h:Z:=by
 cases decide (q.1=n) with
 | true=>rfl
 | false=>exact ih):Z:=h
theorem Q5Y(k:Y)(h:Wr Y->Z:=by intro kQ;(first|refine Bb (qfs _ _) ?_|refine Bb (qch _ _) ?_|refine Bb (qe7 _ _) ?_|refine Bf (by rw[xg ha.1];rfl) ?_|refine Bf (by rw[xg ha.2.1];rfl) ?_|refine Bf (by rw[xg ha.2.2.1];rfl) ?_|refine Bf (by rw[xg ha.2.2.2];rfl) ?_|fail);exact kQ.o):Z:=h ⟨k⟩
theorem Q5Z(k:Y)(h:Wr Y->Z:=by intro kQ;(first|refine Bc (.plain rfl) ?_|refine Bc ⟨⟨_,rfl,id,nlr _,nzj⟩,xb⟩ ?_|refine Bc xb ?_|refine Bc ⟨⟨.inr ⟨_,rfl,rfl⟩,xb⟩,xb⟩ ?_|fail);exact kQ.o):Z:=h ⟨k⟩
theorem Q66(k:Y)(h:Wr Y->Z:=by intro kQ;(first|refine Bf Q9V ?_|fail);exact kQ.o):Z:=h ⟨k⟩
theorem Q68(k:Y)(h:Wr Y->Z:=by intro kQ;(first|refine jgx jfa β.D ⟨boot,false,q⟩ rfl rfl ⟨by omega,by omega⟩ rfl underlying129 underlying3 ?_|refine Bb (qff [xd 3,xc seq] Q9S rfl ⟨.ptr,.same _,xb⟩ (.inr ⟨_,.head _⟩) (qhy (atX q) Win.zero ⟨true,seq,1⟩ seq 0 3 Q9V ha.2.2.1 rfl _ Q9S)) ?_|fail);exact kQ.o):Z:=h ⟨k⟩
theorem Q6c(k:Y)(h:Wr Y->Z:=by intro kQ;(first|refine Bg Q9V ?_|fail);exact kQ.o):Z:=h ⟨k⟩
theorem Q6e(k:Y)(h:Wr Y->Z:=by intro kQ;(first|refine qb3 (T) β 0 1 2 [] qbw (λi hi=>.inl Qa4) hβ Q9S Q9S Q9S Q9S Q9S Q9S Q9S Q9S Q9S Q9V (λk hk=>by cases hk) jg8 (qbn rfl) ?_|fail);exact kQ.o):Z:=h ⟨k⟩
theorem Q6g(k:Y)(h:Wr Y->Z:=by intro kQ;(first|refine qb7 entV (T.E) rfl underlying128 underlying3 type114 rfl (.tuple ⟨[entV Ent.zero,.bool false]⟩) (by rw[hth];rfl) rfl ?_|refine qms entV (T.E) rfl rfl underlying128 ?_|fail);exact kQ.o):Z:=h ⟨k⟩
theorem Q6j(k:Y)(h:Wr Y->Z:=by intro kQ;(first|refine Bb (qn4 _ _ _ _ _ _ _ ⟨l.boot,l.left,q⟩ hg hb1 hlf 0 1 2 _ Q9S Q9S Q9S Q9V) ?_|refine jgx jfa D ⟨boot,false,q⟩ rfl rfl ⟨by omega,by omega⟩ rfl underlying129 underlying3 ?_|refine Bb (qff [xd 3,xc seq] Q9S rfl ⟨.ptr,.same _,xb⟩ (.inr ⟨_,.head _⟩) (qhy (atX q) l.W W' seq 0 3 hs ha.2.2.1 hw _ Q9S)) ?_|fail);exact kQ.o):Z:=h ⟨k⟩
theorem Q6r(k:Y)(h:Wr Y->Z:=by intro kQ;(first|refine jks entV (T.E) rfl rfl rfl underlying128 underlying3 ?_|refine jgx entV (jfw (T.E) (minT (entT (T.E)) (T.E).length).node) ⟨n,boot,now,Ent.zero.has,Ent.zero.x,Ent.zero.y,Ent.zero.a,Ent.zero.b,Ent.zero.d,Ent.zero.when_⟩ rfl rfl ⟨by omega,by omega⟩ rfl underlying128 underlying3 ?_|refine Bx ?_|refine Bz ?_|fail);exact kQ.o):Z:=h ⟨k⟩
theorem Q6B(k:Y)(h:Wr Y->Z:=by intro kQ;(first|refine Bc ⟨qb4 Q9S,qb4 Q9S,xb⟩ ?_|refine Bc xb ?_|refine Bc ⟨⟨.inl rfl,.inr ⟨_,rfl,rfl⟩,.inr ⟨_,rfl,rfl⟩,xb⟩,xb⟩ ?_|fail);exact kQ.o):Z:=h ⟨k⟩
theorem Q6D(k:Y)(h:Wr Y->Z:=by intro kQ;(first|refine jgx entV (T.E) ⟨n,boot,now,Ent.zero.has,Ent.zero.x,Ent.zero.y,Ent.zero.a,Ent.zero.b,Ent.zero.d,Ent.zero.when_⟩ rfl rfl ⟨by omega,by omega⟩ rfl underlying128 underlying3 ?_|refine Bx ?_|refine Bz ?_|fail);exact kQ.o):Z:=h ⟨k⟩
theorem Q6F(k:Y)(h:Wr Y->Z:=by intro kQ;(first|refine qb7 entV (dPut T.E n ⟨n,e.boot,e.heard,false,0,0,0,0,0,0⟩) rfl underlying128 underlying3 type114 rfl (.tuple ⟨[entV ⟨n,e.boot,e.heard,false,0,0,0,0,0,0⟩,.bool true]⟩) (by rw[hth];rfl) rfl ?_|refine jgx entV (dPut T.E n ⟨n,e.boot,e.heard,false,0,0,0,0,0,0⟩) ⟨n,boot,now,false,0,0,0,0,0,0⟩ rfl rfl ⟨by omega,by omega⟩ rfl underlying128 underlying3 ?_|refine Bz ?_|fail);exact kQ.o):Z:=h ⟨k⟩
theorem Q6V(k:Y)(h:Wr Y->Z:=by intro kQ;(first|refine qb7 entV E rfl underlying128 underlying3 type114 rfl (.tuple ⟨[entV e,.bool true]⟩) (by rw[hE];rfl) rfl ?_|refine jgx entV E ⟨n,e.boot,e.heard,false,0,0,0,0,0,0⟩ rfl rfl ⟨by omega,by omega⟩ rfl underlying128 underlying3 ?_|refine Bb (qn3 6 _ Q9S) ?_|fail);exact kQ.o):Z:=h ⟨k⟩
theorem Q79(k:Y)(h:Wr Y->Z:=by intro kQ;(first|refine qb7 jfa D rfl underlying129 underlying3 type159 rfl (.tuple ⟨[jfa r,.bool true]⟩) QaD rfl ?_|fail);exact kQ.o):Z:=h ⟨k⟩
theorem Q7p(k:Y)(h:Wr Y->Z:=by intro kQ;(first|refine qb7 jfa D rfl underlying129 underlying3 type159 rfl (.tuple ⟨[.agg ⟨[xc 0,.bool false,.pointer none]⟩,.bool false]⟩) QaD rfl ?_|fail);exact kQ.o):Z:=h ⟨k⟩
theorem Q7q(k:Y)(h:Wr Y->Z:=by intro kQ;(first|refine qb7 entV E rfl underlying128 underlying3 type114 rfl (.tuple ⟨[entV Ent.zero,.bool false]⟩) (by rw[hE];rfl) rfl ?_|refine Bb (qn3 6 _ Q9S) ?_|fail);exact kQ.o):Z:=h ⟨k⟩
theorem Q7s(k:Y)(h:Wr Y->Z:=by intro kQ;(first|refine Bb (qnv _ _ _) ?_|refine Bf (by simp only[beq_eq_false_iff_ne];exact hb1) ?_|fail);exact kQ.o):Z:=h ⟨k⟩
theorem Q7B(k:Y)(h:Wr Y->Z:=by intro kQ;(first|refine qb7 entV T.E rfl underlying128 underlying3 type114 rfl (.tuple ⟨[entV Ent.zero,.bool false]⟩) QaD rfl ?_|fail);exact kQ.o):Z:=h ⟨k⟩
theorem Q7H(k:Y)(h:Wr Y->Z:=by intro kQ;(first|refine qb7 entV T.E rfl underlying128 underlying3 type114 rfl (.tuple ⟨[entV e,.bool true]⟩) QaD rfl ?_|fail);exact kQ.o):Z:=h ⟨k⟩
theorem Q7J(k:Y)(h:Wr Y->Z:=by intro kQ;(first|refine Bb (qyn _ true T.most (T.E) (dPut β.D n ⟨boot,false,q⟩) hE hpos 0 1 2 _ Q9S Q9S Q9S Q9V) ?_|fail);exact kQ.o):Z:=h ⟨k⟩
theorem Q7Y(h:Z:=by first|exact ⟨⟨λh=>Qaa,nlr _,qdc Q9S Q9S⟩,⟨λh=>⟨rfl,nlr _⟩,nlr _,qcf⟩,⟨λh=>⟨rfl,nlr _⟩,nlr _,qcf⟩,xb⟩|fail):Z:=h
theorem Q84(h:Z:=by first|exact ⟨.ptr rfl,.plain rfl,.plain rfl,.plain rfl,.plain rfl,xb⟩|fail):Z:=h
theorem Q85(h:Z:=by first|exact ⟨.ptr rfl,.plain rfl,.plain rfl,xb⟩|fail):Z:=h
theorem Q8i(h:Z:=by first|exact ⟨.inl rfl,.inr ⟨rfl,rfl⟩,.inr ⟨rfl,rfl⟩,xb⟩|fail):Z:=h
theorem Q8x(h:Z:=by first|exact ⟨⟨.inl rfl,.inr ⟨_,rfl,rfl⟩,.inr ⟨_,rfl,rfl⟩,xb⟩,.inr ⟨_,rfl,rfl⟩,xb⟩|fail):Z:=h
theorem Q8A(h:Z:=by first|exact results_cell_row Tryz.results154 _ _ (w.heap.size+1) _ _ _ _ rfl (hr2.drew.row _) underlying124 rfl Qap|fail):Z:=h
theorem Q8K(h:Z:=by first|exact ⟨⟨xT rfl,_,rfl,id,nlr _,jl8⟩,xb⟩|fail):Z:=h
theorem Q92(h:Z:=by first|exact qem Tryz.results215 _ _ _ _ _ _ rfl rfl h2 h3|fail):Z:=h
theorem Q94(h:Z:=by first|exact qua _ _ _ _ _ _ _ hn ⟨l.boot,l.left,q0⟩ hg hb1 hls hth 0 1 2 _ Q9S Q9S Q9S Q9V 3 Q9S Q9V|fail):Z:=h
theorem Q96(h:Z:=by first|exact ⟨by rw[hcm];rfl,by repeat (first|with_reducible exact hbel|with_reducible apply Below.drew|with_reducible apply qf0),hsz⟩|fail):Z:=h
theorem Q99(h:Z:=by first|exact results_cell_row Tryz.results98 _ _ w.heap.size _ _ _ _ rfl (hr.row _) underlying124 rfl Qap|fail):Z:=h
theorem Q9g(h:Z:=by first|exact ⟨qb4 Q9S,qb4 Q9S,xb⟩|fail):Z:=h
theorem Q9m(h:Z:=by first|exact qt9 _ _ _ _ _ _ _ hn hg hth 0 1 2 _ Q9S Q9S Q9S Q9V 3 Q9S Q9V|fail):Z:=h
theorem Q9p(h:Z:=by first|exact ⟨.slice rfl,.plain rfl,xb⟩|fail):Z:=h
theorem Qa3(h:Z:=by rw[sz_size];kernel_rfl):Z:=h
theorem Qac(h:Z:=by simp[Apart,hii.1,hii.2.1,hii.2.2]):Z:=h
theorem Qal(h:Z:=by rintro e w' ⟨he,rfl⟩;exact⟨he,Below.refl _ _⟩):Z:=h
theorem Qao(h:Z:=by first|(simp;done)|(simp;omega)|omega):Z:=h
theorem Qap(h:Z:=by rw[wi_size];kernel_rfl):Z:=h
theorem QaB(h:Z:=by show w.heap.size+1+1+1+1≠_;omega):Z:=h
theorem QaW(h:Z:=by show 0<3;decide):Z:=h
theorem Qbl(h:Z:=by rw[zl];simp;omega):Z:=h
end
end Go.Proofs

namespace Go.Proofs.YtfkngpmgcimdbaaGreat
open Go Go.RowKit Sx
def jjr(x y:Int):Int:=if x<y then -1 else if x > y then 1 else 0
def jnc(a b:Ent):Int:=if jjr a.heard b.heard≠0 then jjr a.heard b.heard else jjr a.node b.node
theorem q2r(s:Int)(w:World):xa 140 #[xc s] w (.bool false):=by
 refine qac (G:=tys) w tysOK mixed func140 Q9S Q9U Q9T ?_;exact Q3h
theorem q7l(s:Int)(h:Hp):qae prog 140 [xc s] h (.bool false) [] []:=qai rfl rfl (call140 _) (q2r s)
theorem q2s(a b:Int)(w:World):xa 115 #[xc a,xc b] w (xc (jjr a b)):=by
 refine qac (G:=tys) w tysOK mixed func115 Q9S Q9U Q9T ?_;repeat' (refine Ba ?_;first|refine Q5V ?_|refine Q5R ?_|refine Bb (q7l _ _) ?_|with_reducible refine Bj (λhb=>?_) (λhb=>?_)|fail)
 all_goals
  refine congrArg _ ?_
  unfold jjr
  simp only[xh,xm] at *
  first
   | (rw[if_pos Q9R];first | done | fail)
   | (rw[if_neg Q9R,if_pos Q9R];first | done | fail)
   | (rw[if_neg Q9R,if_neg Q9R])
theorem q7m(a b:Int)(h:Hp):qae prog 115 [xc a,xc b] h (xc (jjr a b)) [] []:=qai rfl rfl (call115 _) (q2s a b)
theorem qv3(s:Int)(w:World):xa 139 #[xc s] w (.bool false):=by
 refine qac (G:=tys) w tysOK mixed func139 Q9S Q9U Q9T ?_;exact Q3h
theorem qyl(s:Int)(h:Hp):qae prog 139 [xc s] h (.bool false) [] []:=qai rfl rfl (call139 _) (qv3 s)
theorem qv4(a b:Int)(w:World):xa 114 #[xc a,xc b] w (xc (jjr a b)):=by
 refine qac (G:=tys) w tysOK mixed func114 Q9S Q9U Q9T ?_;repeat' (refine Ba ?_;first|refine Q5V ?_|refine Q5R ?_|refine Bb (qyl _ _) ?_|with_reducible refine Bj (λhb=>?_) (λhb=>?_)|fail)
 all_goals
  refine congrArg _ ?_
  unfold jjr
  simp only[xh,xm] at *
  first
   | (rw[if_pos Q9R];first | done | fail)
   | (rw[if_neg Q9R,if_pos Q9R];first | done | fail)
   | (rw[if_neg Q9R,if_neg Q9R])
theorem qym(a b:Int)(h:Hp):qae prog 114 [xc a,xc b] h (xc (jjr a b)) [] []:=qai rfl rfl (call114 _) (qv4 a b)
abbrev jnd(o:Bool)(a b:Int):Chunk:=⟨o,2,[(0,2,.agg ⟨[xc a,xc b]⟩)]⟩
variable{ix:List (Nat×Nat)}
theorem jbf{o o':Bool}{a b:Int}:qbg ix (jnd o a b) (jnd o' a b):=λj hj=>by
 match j,hj with
 | 0,_=>exact .plain rfl
 | 1,_=>exact .plain rfl
theorem cOr(o:Bool)(a b:Int)(i:Nat)(h:Hp)(hi:h[i]?=some (some (jnd o a b))):
  qae prog 113 [.slice (some ⟨i,0,some 0⟩) 2 2] h (xc (if a≠0 then a else b)) [] [i]:=by
 refine qak (G:=tys) [⟨i,_,jnd false a b,noC⟩] [] [.slice (some ⟨0,0,some 0⟩) 2 2] tysOK mixed func113 Q9S (call113) ⟨hi,xb⟩ ⟨⟨λh=>Qaa,nlr _,jbf⟩,xb⟩ Q9X xb ⟨.slice rfl,xb⟩ ?_
 repeat' (refine Ba ?_;first|refine Q5V ?_|refine Q5R ?_|refine Q66 ?_|refine Q6c ?_|refine Bj (λhb=>?_) (λhb=>?_)|fail)
 refine Ba ?_
 refine Bp 3 ?_
 repeat' (refine Ba ?_;first|refine Q5V ?_|refine Q5R ?_|refine Q66 ?_|refine Q6c ?_|refine Bj (λhb=>?_) (λhb=>?_)|fail)
 refine Ba ?_
 refine Bi 0 0 rfl Q9V ?_
 repeat' (refine Ba ?_;first|refine Q5V ?_|refine Q5R ?_|refine Q66 ?_|refine Q6c ?_|refine Bj (λhb=>?_) (λhb=>?_)|fail)
 .simp only[bne_iff_ne,ne_eq] at hb;rw[if_pos hb];exact Q1P
 .refine Ba ?_;refine Bi 1 0 rfl Q9V ?_;repeat' (refine Ba ?_;first|refine Q5V ?_|refine Q5R ?_|refine Q66 ?_|refine Q6c ?_|refine Bj (λhb=>?_) (λhb=>?_)|fail)
  .rename_i hb1;simp only[bne_iff_ne,ne_eq,bne_eq_false_iff_eq] at hb hb1;rw[if_neg Q9R];exact Q1P
  .rename_i hb1;simp only[bne_iff_ne,ne_eq,bne_eq_false_iff_eq] at hb hb1;rw[if_neg Q9R,hb];exact Q1P
theorem q2t(a b:Ent)(w:World):xa 112 #[entV a,entV b] w (xc (jnc a b)):=by
 refine qac (G:=tys) w tysOK mixed func112 Q9S Q9U Q9T ?_;repeat' (refine Ba ?_;first|refine Q5V ?_|refine Q5R ?_|refine Bb (qym _ _ _) ?_|refine Bb (q7m _ _ _) ?_|refine Bb (cOr _ _ _ _ _ Q9S) ?_|fail)
 all_goals rfl
theorem qh4(a b:Ent)(h:Hp):qae prog 112 [entV a,entV b] h (xc (jnc a b)) [] []:=qai rfl rfl (call112 _) (q2t a b)
def minT(T:Nat->Ent):Nat->Ent
 | 0=>T 0
 | 1=>T 0
 | r+2=>if jnc (T (r+1)) (minT T (r+1))<0 then T (r+1) else minT T (r+1)
theorem qis(T:Nat->Ent)(r:Nat)(h:1<=r):minT T (r+1)=if jnc (T r) (minT T r)<0 then T r else minT T r:=by
 obtain⟨k,rfl⟩:∃k,r=k+1:=⟨r-1,by omega⟩;rfl
abbrev q5w:Value:=.func (.func 112) ⟨[]⟩ ⟨[]⟩
abbrev jq8(e:Ent):Chunk:=⟨true,10,[(0,10,entV e)]⟩
theorem jn2(o:Bool)(cap:Nat)(T:Nat->Ent)(n c i:Nat)(h:Hp)(hi:h[i]?=some (some (enC o cap T)))(hn:1<=n)(hc:n<=cap)(hm:n<=1000):
  qae prog 111 [.slice (some ⟨i,0,some 0⟩) n c,q5w] h (entV (minT T n)) [] [i]:=by
 refine qak (G:=tys) [⟨i,_,enC false cap T,noC⟩] [] [.slice (some ⟨0,0,some 0⟩) n c,q5w] tysOK mixed func111 Q9S (call111) ⟨hi,xb⟩ ⟨⟨λh=>Qaa,nlr _,qt6 λ_ _=>rfl⟩,xb⟩ Q9X xb Q9p ?_
 repeat' (refine Ba ?_;first|refine Q5V ?_|refine Q5R ?_|refine Bb (qh4 _ _ _) ?_|refine Q64 ?_|refine Q60 ?_|fail)
 refine Ba ?_
 refine Bi 0 1 rfl hn ?_
 refine Ba ?_
 refine Bk _ (jjp 0 rfl Q9R rfl) ?_
 repeat' (refine Ba ?_;first|refine Q5V ?_|refine Q5R ?_|refine Bb (qh4 _ _ _) ?_|refine Q64 ?_|refine Q60 ?_|fail)
 refine Ba ?_
 refine Bo (α:=Nat) (λr=>1<=r/\r<=n) (λr=>n-r) (λr=>[(6,xc (r:Int))]) (λr=>[(2,jq8 (minT T r))]) 1 ⟨nlr _,hn⟩ ?_ ?_
 .exact Q1z
 .intro r hr;obtain⟨r1,r2⟩:=hr;by_cases hlt:r<n
  .have hst:=qis T r r1;refine Q4A ?_;refine Bj (λhb=>?_) (λhb=>?_)
   .simp only[xh] at hb;rw[if_pos hb] at hst;refine Q4A ?_;exact Q5a
   .simp only[xm] at hb;rw[if_neg hb] at hst;refine Q0R ?_;exact Q5a
  .obtain rfl:r=n:=by omega
   repeat' (refine Ba ?_;first|refine Q5V ?_|refine Q5R ?_|refine Q60 ?_|refine Q6o ?_|refine Bc xb ?_|exact Be|fail)
theorem qdc{x y:Ext}{o o':Bool}{most:Int}{i j i' j':Nat}(hi:ixK ix i'=some i)(hj:ixK ix j'=some j):qbg ix (jgg x o most i j) (jgg y o' most i' j'):=λl hl=>by
 match l,hl with
 | 0,_=>exact .plain rfl
 | 1,_=>exact .map hi
 | 2,_=>exact .map hj
abbrev jhj(most:Int):Chunk:=jgg Ext.none false most 1 2
theorem qyn(x:Ext)(o:Bool)(most:Int)(E:Ez)(D:Fz)(hE:E.length<=64)(hpos:0<E.length)(i i1 i2:Nat)(h:Hp)(hi:h[i]?=some (some (jgg x o most i1 i2)))(h1:h[i1]?=some (some (mapC entV E)))(h2:h[i2]?=some (some (mapC jfa D)))(hii:i≠i1/\i≠i2/\i1≠i2):
  qae prog 84 [xd i] h (xc (minT (entT E) E.length).node) [(i1,mapC entV E),(i2,mapC jfa D)] [i]:=by
 refine qar (G:=tys) (λ_:Unit=>True) (λ_=>_) [⟨i,_,jhj most,noC⟩,⟨i1,mapC entV E,mapC entV E,mapC entV E⟩,⟨i2,mapC jfa D,mapC jfa D,mapC jfa D⟩] [] [xd 0] tysOK mixed func84 Q9S (call84) ⟨hi,h1,h2,xb⟩
  Q7Y Qac Q8i xb ⟨.ptr rfl,xb⟩ Opens.same ?_
 rintro⟨⟩ -
 repeat' (refine Ba ?_;first|refine Q5V ?_|refine Q5R ?_|fail)
 refine Ba ?_
 refine Bh (jk0 Ext.none false most E hE 0 1 2 3 _ Q9S Q9S Q9V Q9S) λv ms hR=>?_
 rcases hR with ⟨hE0,_,_⟩|⟨cap,_,hcap,rfl,rfl⟩
 .rw[hE0] at hpos;exact absurd hpos Qa2
 have hmin:∀r,r<=E.length->1<=r->minT (λi=>if i<E.length then entT E i else Ent.zero) r=minT (entT E) r:=by
  intro r
  induction r with
  | zero=>intro _ h0;omega
  | succ r ih=>
   intro hr _;rcases xU r with rfl|h0
   .show(if 0<E.length then entT E 0 else Ent.zero)=entT E 0;rw[if_pos hpos]
   .rw[qis _ r h0,qis _ r h0,ih Q9R h0,if_pos (by omega:r<E.length)]
 have hm1:=hmin E.length (nlr _) hpos
 repeat' (refine Ba ?_;first|refine Q5V ?_|refine Q5R ?_|fail)
 refine Ba ?_
 refine Bb (jn2 true cap _ E.length cap 3 _ Q9S hpos hcap Q9R) ?_
 rw[hm1]
 repeat' (refine Ba ?_;first|refine Q5V ?_|refine Q5R ?_|refine Bl ?_|refine Q6o ?_|refine Q6B ?_|exact Be|fail)
variable{α:Type}
theorem qbf(D:List (Int×α))(k:Int)(a:α):dGet (dPut D k a) k=some a:=by
 unfold dPut;cases hg:dGet D k with
 | none=>
  simp only;have:(D++[(k,a)]).find? (λq=>decide (q.1=k))=some (k,a):=by
   rw[List.find?_append,List.find?_eq_none.2 (by simpa using dGet_none.1 hg)];simp
  simp[dGet,this]
 | some b=>
  simp only;have hm:=qio hg
  induction D with
  | nil=>cases hm
  | cons q D ih=>
   unfold dGet;rw[xp,yU];by_cases e:q.1=k
   .simp[e]
   .have h1:decide ((if q.1=k then (k,a) else q).1=k)=false:=by rw[if_neg e];simp[e]
    rw[h1];have hg':dGet D k=some b:=by
     unfold dGet at hg;rw[yU] at hg;simpa[e,dGet] using hg
    exact ih hg' (qio hg')
variable{k n:Int}
theorem qcs(D:List (Int×α))(a:α)(h:n≠k):dGet (dPut D k a) n=dGet D n:=by
 unfold dPut;cases hg:dGet D k with
 | none=>
  simp only;unfold dGet;rw[List.find?_append];cases D.find? (λq=>decide (q.1=n)) with
  | none=>simp[Ne.symm h]
  | some x=>simp
 | some b=>
  simp only;clear hg;unfold dGet
  induction D with
  | nil=>rfl
  | cons q D ih=>
   rw[xp,yU,yU];by_cases e:q.1=k
   .have h1:decide (q.1=n)=false:=by simp[e,Ne.symm h]
    have h2:decide ((if q.1=k then (k,a) else q).1=n)=false:=by rw[if_pos e];simp[Ne.symm h]
    rw[h1,h2];exact ih
   .rw[if_neg e];exact Q5O
theorem qit(D:List (Int×α))(k:Int):dGet (jfw D k) k=none:=dGet_none.2 λq hq=>by
 have:=(List.mem_filter.1 hq).2;simpa using this
theorem qlh(D:List (Int×α))(h:n≠k):dGet (jfw D k) n=dGet D n:=by
 unfold dGet jfw
 induction D with
 | nil=>rfl
 | cons q D ih=>
  by_cases e:q.1=k
  .rw[List.filter_cons,if_neg Qbi,yU];have h1:decide (q.1=n)=false:=by simp[e,Ne.symm h]
   rw[h1];exact ih
  .rw[List.filter_cons,if_pos Qbi,yU,yU];exact Q5O
def jfl(lv:Int->Option jg7)(n:Int)(l:jg7)(m:Int):Option jg7:=if m=n then some l else lv m
variable{lv:Int->Option jg7}{β:LB}{W:Win}
theorem qqn(h:qba lv β){r:jkf}(hg:dGet β.D n=some r)(hW:(r.q,W)∈β.F)(hl:lv n=some ⟨r.boot,r.left,W⟩)(b:Int)(l:Bool):qba (jfl lv n ⟨b,l,W⟩) ⟨dPut β.D n ⟨b,l,r.q⟩,β.F⟩:=by
 obtain⟨h1,h2,h3⟩:=h;have key:∀m s,dGet (dPut β.D n ⟨b,l,r.q⟩) m=some s->(m=n/\s=⟨b,l,r.q⟩)\/(m≠n/\dGet β.D m=some s):=λm s hs=>Q4q
 refine⟨λm hm=>?_,λm s hs=>?_,λm m' s s' hs hs' e=>?_⟩
 .exact Q3l
 .rcases key m s hs with ⟨rfl,rfl⟩|⟨e,hs⟩
  .exact⟨W,hW,by unfold jfl;rw[if_pos rfl]⟩
  .obtain⟨W',hW',hl'⟩:=h2 m s hs;exact⟨W',hW',by unfold jfl;rw[if_neg e];exact hl'⟩
 .have k1:=key m s hs;have k2:=key m' s' hs';clear hs hs';rcases k1 with ⟨rfl,rfl⟩|⟨e1,hs⟩<;>rcases k2 with ⟨rfl,rfl⟩|⟨e2,hs'⟩
  .rfl
  .exact h3 _ _ _ _ hg hs' e
  .exact h3 _ _ _ _ hs hg e
  .exact h3 _ _ _ _ hs hs' e
theorem jk1(T:Tbl)(n:Int)(e:Ent)(hg:dGet T.E n=some e)(i:Nat)(h:Hp)(hi:h[i]?=some (some (tblC T))):
  qae prog 73 [xd i,xc n] h (.tuple ⟨[entV e,.bool true]⟩) [(i,tblC (T))] []:=by
 refine qar (G:=tys) (qba T.lives) (jgs T) [⟨i,tblC T,tblC T,tblC (T)⟩] [] [xd 0,xc n] tysOK mixed func73 Q9S (call73) ⟨hi,xb⟩ ⟨Q7X,xb⟩ Q9X Q81 xb Q83 qau ?_
 intro β hβ
 repeat' (refine Ba ?_;first|refine Q5V ?_|refine Q5R ?_|refine Q7H ?_|refine Q6e ?_|refine Q5Z ?_|exact Be|fail)
theorem jk2(T:Tbl)(n:Int)(hg:dGet T.E n=none)(i:Nat)(h:Hp)(hi:h[i]?=some (some (tblC T))):
  qae prog 73 [xd i,xc n] h (.tuple ⟨[entV Ent.zero,.bool false]⟩) [(i,tblC (T))] []:=by
 refine qar (G:=tys) (qba T.lives) (jgs T) [⟨i,tblC T,tblC T,tblC (T)⟩] [] [xd 0,xc n] tysOK mixed func73 Q9S (call73) ⟨hi,xb⟩ ⟨Q7X,xb⟩ Q9X Q81 xb Q83 qau ?_
 intro β hβ
 repeat' (refine Ba ?_;first|refine Q5V ?_|refine Q5R ?_|refine Q7B ?_|refine Q6e ?_|refine Q5Z ?_|exact Be|fail)
theorem qct(h:qba lv β){l:jg7}(hl:lv n=some l):∃q,dGet β.D n=some ⟨l.boot,l.left,q⟩/\(q,l.W)∈β.F:=by
 cases hg:dGet β.D n with
 | none=>rw[h.1 n hg] at hl;cases hl
 | some r=>
  obtain⟨W,h1,h2⟩:=h.2.1 n r hg;rw[h2] at hl;obtain rfl:_=l:=by simpa using hl
  exact⟨r.q,rfl,h1⟩
theorem qfa(h:qba lv β)(hl:lv n=none):dGet β.D n=none:=by
 cases hg:dGet β.D n with
 | none=>rfl
 | some r=>
  obtain⟨W,_,h2⟩:=h.2.1 n r hg;rw[h2] at hl;cases hl
theorem q7n(T:Tbl)(n:Int)(hn:0<=n/\n<64)(l:jg7)(hl:T.lives n=some l)(i:Nat)(h:Hp)(hi:h[i]?=some (some (tblC T))):
  qae prog 88 [xd i,xc n] h (.bool true) [(i,tblC (⟨T.most,jfw T.E n,jfl T.lives n ⟨l.boot,true,l.W⟩⟩))] []:=by
 refine qar (G:=tys) (qba T.lives) (jgs T) [⟨i,tblC T,tblC T,tblC (⟨T.most,jfw T.E n,jfl T.lives n ⟨l.boot,true,l.W⟩⟩)⟩] [] [xd 0,xc n] tysOK mixed func88 Q9S (call88) ⟨hi,xb⟩ ⟨Q7X,xb⟩ Q9X Q81 xb Q83 qau ?_
 intro β hβ
 obtain⟨q,hg,hW⟩:=qct hβ hl
 have hl2:qba (jfl T.lives n ⟨l.boot,true,l.W⟩) ⟨dPut β.D n ⟨l.boot,true,q⟩,β.F⟩:=qqn hβ hg hW hl l.boot true
 repeat' (refine Ba ?_;first|refine Q5V ?_|refine Q5R ?_|refine qb7 jfa β.D rfl underlying129 underlying3 type159 rfl (.tuple ⟨[jfa ⟨l.boot,l.left,q⟩,.bool true]⟩) QaD rfl ?_|refine jgx jfa β.D ⟨l.boot,true,q⟩ rfl rfl ⟨by omega,by omega⟩ rfl underlying129 underlying3 ?_|refine jks entV T.E rfl rfl rfl underlying128 underlying3 ?_|refine qb3 (⟨T.most,jfw T.E n,jfl T.lives n ⟨l.boot,true,l.W⟩⟩) ⟨dPut β.D n ⟨l.boot,true,q⟩,β.F⟩ 0 1 2 [] qbw (λi hi=>.inl Qa4) hl2 Q9S Q9S Q9S Q9S Q9S Q9S Q9S Q9S Q9S Q9V (λk hk=>by cases hk) jg8 (qbn rfl) ?_|refine Q5Z ?_|exact Be|fail)
theorem q7o(T:Tbl)(n:Int)(hl:T.lives n=none)(i:Nat)(h:Hp)(hi:h[i]?=some (some (tblC T))):
  qae prog 88 [xd i,xc n] h (.bool false) [(i,tblC (T))] []:=by
 refine qar (G:=tys) (qba T.lives) (jgs T) [⟨i,tblC T,tblC T,tblC (T)⟩] [] [xd 0,xc n] tysOK mixed func88 Q9S (call88) ⟨hi,xb⟩ ⟨Q7X,xb⟩ Q9X Q81 xb Q83 qau ?_
 intro β hβ
 have hg:=qfa hβ hl
 repeat' (refine Ba ?_;first|refine Q5V ?_|refine Q5R ?_|refine qb7 jfa β.D rfl underlying129 underlying3 type159 rfl (.tuple ⟨[.agg ⟨[xc 0,.bool false,.pointer none]⟩,.bool false]⟩) QaD rfl ?_|refine Q6e ?_|refine Q5Z ?_|exact Be|fail)
open Go Go.RowKit Sx
theorem qn3(K:Nat)(h:Hp)(hK:h[K]?=some none):qae prog 108 [] h (xd K) [(K,jqg true Win.zero)] []:=by
 refine qak (G:=tys) [] [⟨K,0,jqg true Win.zero⟩] [] tysOK mixed func108 Q9S (call108) xb xb xb ⟨⟨hK,rfl,QaW,by simp⟩,xb⟩ xb ?_;repeat' (refine Ba ?_;first|refine Q5V ?_|refine Q5R ?_|refine Bc (.one (.ptr rfl)) ?_|refine Bc xb ?_|refine Bc ⟨⟨nlr _,_,rfl,id,nlr _,jny⟩,xb⟩ ?_|exact Be|fail)
theorem q7p(x:Ext)(o:Bool)(most:Int)(E:Ez)(D:Fz)(n boot:Int)(r:jkf)(hg:dGet D n=some r)(hb1:r.boot=boot)(hl:r.left=true)(i i1 i2:Nat)(h:Hp)(hi:h[i]?=some (some (jgg x o most i1 i2)))(h1:h[i1]?=some (some (mapC entV E)))(h2:h[i2]?=some (some (mapC jfa D)))(hii:i≠i1/\i≠i2/\i1≠i2):
  qae prog 82 [xd i,xc n,xc boot] h (.tuple ⟨[.agg ⟨[xc 0,.bool false,.pointer none]⟩,xc 9]⟩) [(i1,mapC entV E),(i2,mapC jfa D)] [i]:=by
 refine qar (G:=tys) (λ_:Unit=>True) (λ_=>_) [⟨i,_,jhj most,noC⟩,⟨i1,mapC entV E,mapC entV E,mapC entV E⟩,⟨i2,mapC jfa D,mapC jfa D,mapC jfa D⟩] [] [xd 0,xc n,xc boot] tysOK mixed func82 Q9S (call82) ⟨hi,h1,h2,xb⟩
  Q7Y Qac Q8i xb Q85 Opens.same ?_
 rintro⟨⟩ -
 obtain⟨rb,rl,rq⟩:=r
 have hb1:rb=boot:=hb1
 have hl:rl=true:=hl
 subst hb1 hl
 repeat' (refine Ba ?_;first|refine Q5V ?_|refine Q5R ?_|refine qb7 jfa D rfl underlying129 underlying3 type159 rfl (.tuple ⟨[jfa ⟨rb,true,rq⟩,.bool true]⟩) QaD rfl ?_|refine Bg Qa2 ?_|refine Bl ?_|refine Q6o ?_|refine Q6B ?_|exact Be|fail)
theorem qn4(x:Ext)(o:Bool)(most:Int)(E:Ez)(D:Fz)(n boot:Int)(r:jkf)(hg:dGet D n=some r)(hb1:r.boot=boot)(hl:r.left=false)(i i1 i2:Nat)(h:Hp)(hi:h[i]?=some (some (jgg x o most i1 i2)))(h1:h[i1]?=some (some (mapC entV E)))(h2:h[i2]?=some (some (mapC jfa D)))(hii:i≠i1/\i≠i2/\i1≠i2):
  qae prog 82 [xd i,xc n,xc boot] h (.tuple ⟨[jfa ⟨boot,false,r.q⟩,xc 0]⟩) [(i1,mapC entV E),(i2,mapC jfa D)] [i]:=by
 refine qar (G:=tys) (λ_:Unit=>True) (λ_=>_) [⟨i,_,jhj most,noC⟩,⟨i1,mapC entV E,mapC entV E,mapC entV E⟩,⟨i2,mapC jfa D,mapC jfa D,mapC jfa D⟩] [] [xd 0,xc n,xc boot] tysOK mixed func82 Q9S (call82) ⟨hi,h1,h2,xb⟩
  Q7Y Qac Q8i xb Q85 Opens.same ?_
 rintro⟨⟩ -
 obtain⟨rb,rl,rq⟩:=r
 have hb1:rb=boot:=hb1
 have hl:rl=false:=hl
 subst hb1 hl
 repeat' (refine Ba ?_;first|refine Q5V ?_|refine Q5R ?_|refine qb7 jfa D rfl underlying129 underlying3 type159 rfl (.tuple ⟨[jfa ⟨rb,false,rq⟩,.bool true]⟩) QaD rfl ?_|refine Bg Qa2 ?_|refine Bl ?_|refine Q6o ?_|refine Q6B ?_|exact Be|fail)
theorem q7q(x:Ext)(o:Bool)(most:Int)(E:Ez)(D:Fz)(n boot:Int)(r:jkf)(hg:dGet D n=some r)(hb1:r.boot≠boot)(hl:¬ (0<jfi r.boot boot/\jfi r.boot boot<32768))(i i1 i2:Nat)(h:Hp)(hi:h[i]?=some (some (jgg x o most i1 i2)))(h1:h[i1]?=some (some (mapC entV E)))(h2:h[i2]?=some (some (mapC jfa D)))(hii:i≠i1/\i≠i2/\i1≠i2):
  qae prog 82 [xd i,xc n,xc boot] h (.tuple ⟨[.agg ⟨[xc 0,.bool false,.pointer none]⟩,xc 9]⟩) [(i1,mapC entV E),(i2,mapC jfa D)] [i]:=by
 refine qar (G:=tys) (λ_:Unit=>True) (λ_=>_) [⟨i,_,jhj most,noC⟩,⟨i1,mapC entV E,mapC entV E,mapC entV E⟩,⟨i2,mapC jfa D,mapC jfa D,mapC jfa D⟩] [] [xd 0,xc n,xc boot] tysOK mixed func82 Q9S (call82) ⟨hi,h1,h2,xb⟩
  Q7Y Qac Q8i xb Q85 Opens.same ?_
 rintro⟨⟩ -
 repeat' (refine Ba ?_;first|refine Q5V ?_|refine Q5R ?_|refine Q79 ?_|refine Q7s ?_|refine Bg (by rw[xf hl];rfl) ?_|refine Bl ?_|refine Q6o ?_|refine Q6B ?_|exact Be|fail)
def jfs(E:Ez)(n:Int):Ez:=match dGet E n with
 | some e=>dPut E n ⟨n,e.boot,e.heard,false,0,0,0,0,0,0⟩
 | none=>E
theorem q2u(x:Ext)(o:Bool)(most:Int)(E:Ez)(D:Fz)(n boot:Int)(hn:0<=n/\n<64)(hg:dGet D n=none)(e:Ent)(hE:dGet E n=some e)(i i1 i2:Nat)(h:Hp)(hi:h[i]?=some (some (jgg x o most i1 i2)))(h1:h[i1]?=some (some (mapC entV E)))(h2:h[i2]?=some (some (mapC jfa D)))(hii:i≠i1/\i≠i2/\i1≠i2)(K:Nat)(hK:h[K]?=some none)(hKi:K≠i1/\K≠i2):
  CallAll prog 82 [xd i,xc n,xc boot] h (λv ms=>∃q:Nat×Nat,v=.tuple ⟨[jfa ⟨boot,false,q⟩,xc 0]⟩/\ms=[(i1,mapC entV (jfs E n)),(i2,mapC jfa D),(K,winX (atX q) Win.zero)]):=by
 refine qav (qa7 (G:=tys) (λ_:Unit=>True) (λ_=>_) (α:=Nat×Nat) (λ_=>True) (λq=>.tuple ⟨[jfa ⟨boot,false,q⟩,xc 0]⟩) [⟨i,_,jhj most,noC⟩,⟨i1,mapC entV E,mapC entV E,mapC entV E⟩,⟨i2,mapC jfa D,mapC jfa D,mapC jfa D⟩] (λ_=>[noC,mapC entV (jfs E n),mapC jfa D]) (λq=>[⟨K,6,winX (atX q) Win.zero⟩]) [xd 0,xc n,xc boot] tysOK mixed func82 Q9S (call82) ⟨hi,h1,h2,xb⟩
  Q7Y (λ_ _=>Q7Y) Qac Q8i (λq _=>⟨⟨hK,rfl,.inl QaW,by simp⟩,xb⟩) Q85 Opens.same ?_) ?_
 rotate_left
 .exact Q3P
 rintro⟨⟩ -
 have hbe:jfs E n=dPut E n ⟨n,e.boot,e.heard,false,0,0,0,0,0,0⟩:=by unfold jfs;rw[hE]
 rw[hbe]
 repeat' (refine Ba ?_;first|refine Q5V ?_|refine Q5R ?_|refine Q7p ?_|refine Q6V ?_|fail)
 refine Ba ?_
 refine qip (k:=6) (λq=>.tuple ⟨[jfa ⟨boot,false,q⟩,xc 0]⟩) Q9S (λq ρ hρ=>by simp[den,den2,den1,den0,jft,jfd,hρ]) λq=>?_
 refine Bl ?_
 refine Bn q ⟨xb,?_⟩
 refine Bc (.plain rfl) ?_
 refine Bc Q9g ?_
 refine Bc Q8K ?_
 refine Bc Q8x ?_
 exact Be
theorem qt9(x:Ext)(o:Bool)(most:Int)(E:Ez)(D:Fz)(n boot:Int)(hn:0<=n/\n<64)(hg:dGet D n=none)(hE:dGet E n=none)(i i1 i2:Nat)(h:Hp)(hi:h[i]?=some (some (jgg x o most i1 i2)))(h1:h[i1]?=some (some (mapC entV E)))(h2:h[i2]?=some (some (mapC jfa D)))(hii:i≠i1/\i≠i2/\i1≠i2)(K:Nat)(hK:h[K]?=some none)(hKi:K≠i1/\K≠i2):
  CallAll prog 82 [xd i,xc n,xc boot] h (λv ms=>∃q:Nat×Nat,v=.tuple ⟨[jfa ⟨boot,false,q⟩,xc 0]⟩/\ms=[(i1,mapC entV (jfs E n)),(i2,mapC jfa D),(K,winX (atX q) Win.zero)]):=by
 refine qav (qa7 (G:=tys) (λ_:Unit=>True) (λ_=>_) (α:=Nat×Nat) (λ_=>True) (λq=>.tuple ⟨[jfa ⟨boot,false,q⟩,xc 0]⟩) [⟨i,_,jhj most,noC⟩,⟨i1,mapC entV E,mapC entV E,mapC entV E⟩,⟨i2,mapC jfa D,mapC jfa D,mapC jfa D⟩] (λ_=>[noC,mapC entV (jfs E n),mapC jfa D]) (λq=>[⟨K,6,winX (atX q) Win.zero⟩]) [xd 0,xc n,xc boot] tysOK mixed func82 Q9S (call82) ⟨hi,h1,h2,xb⟩
  Q7Y (λ_ _=>Q7Y) Qac Q8i (λq _=>⟨⟨hK,rfl,.inl QaW,by simp⟩,xb⟩) Q85 Opens.same ?_) ?_
 rotate_left
 .exact Q3P
 rintro⟨⟩ -
 have hbe:jfs E n=E:=by unfold jfs;rw[hE]
 rw[hbe]
 repeat' (refine Ba ?_;first|refine Q5V ?_|refine Q5R ?_|refine Q7p ?_|refine Q7q ?_|fail)
 refine Ba ?_
 refine qip (k:=6) (λq=>.tuple ⟨[jfa ⟨boot,false,q⟩,xc 0]⟩) Q9S (λq ρ hρ=>by simp[den,den2,den1,den0,jft,jfd,hρ]) λq=>?_
 refine Bl ?_
 refine Bn q ⟨xb,?_⟩
 refine Bc (.plain rfl) ?_
 refine Bc Q9g ?_
 refine Bc Q8K ?_
 refine Bc Q8x ?_
 exact Be
theorem q2v(x:Ext)(o:Bool)(most:Int)(E:Ez)(D:Fz)(n boot:Int)(hn:0<=n/\n<64)(r:jkf)(hg:dGet D n=some r)(hb1:r.boot≠boot)(hl:0<jfi r.boot boot/\jfi r.boot boot<32768)(e:Ent)(hE:dGet E n=some e)(i i1 i2:Nat)(h:Hp)(hi:h[i]?=some (some (jgg x o most i1 i2)))(h1:h[i1]?=some (some (mapC entV E)))(h2:h[i2]?=some (some (mapC jfa D)))(hii:i≠i1/\i≠i2/\i1≠i2)(K:Nat)(hK:h[K]?=some none)(hKi:K≠i1/\K≠i2):
  CallAll prog 82 [xd i,xc n,xc boot] h (λv ms=>∃q:Nat×Nat,v=.tuple ⟨[jfa ⟨boot,false,q⟩,xc 0]⟩/\ms=[(i1,mapC entV (jfs E n)),(i2,mapC jfa D),(K,winX (atX q) Win.zero)]):=by
 refine qav (qa7 (G:=tys) (λ_:Unit=>True) (λ_=>_) (α:=Nat×Nat) (λ_=>True) (λq=>.tuple ⟨[jfa ⟨boot,false,q⟩,xc 0]⟩) [⟨i,_,jhj most,noC⟩,⟨i1,mapC entV E,mapC entV E,mapC entV E⟩,⟨i2,mapC jfa D,mapC jfa D,mapC jfa D⟩] (λ_=>[noC,mapC entV (jfs E n),mapC jfa D]) (λq=>[⟨K,6,winX (atX q) Win.zero⟩]) [xd 0,xc n,xc boot] tysOK mixed func82 Q9S (call82) ⟨hi,h1,h2,xb⟩
  Q7Y (λ_ _=>Q7Y) Qac Q8i (λq _=>⟨⟨hK,rfl,.inl QaW,by simp⟩,xb⟩) Q85 Opens.same ?_) ?_
 rotate_left
 .exact Q3P
 rintro⟨⟩ -
 have hbe:jfs E n=dPut E n ⟨n,e.boot,e.heard,false,0,0,0,0,0,0⟩:=by unfold jfs;rw[hE]
 rw[hbe]
 repeat' (refine Ba ?_;first|refine Q5V ?_|refine Q5R ?_|refine Q79 ?_|refine Q6V ?_|refine Q7s ?_|refine Bf (by rw[xg hl];rfl) ?_|fail)
 refine Ba ?_
 refine qip (k:=6) (λq=>.tuple ⟨[jfa ⟨boot,false,q⟩,xc 0]⟩) Q9S (λq ρ hρ=>by simp[den,den2,den1,den0,jft,jfd,hρ]) λq=>?_
 refine Bl ?_
 refine Bn q ⟨xb,?_⟩
 refine Bc (.plain rfl) ?_
 refine Bc Q9g ?_
 refine Bc Q8K ?_
 refine Bc Q8x ?_
 exact Be
theorem qua(x:Ext)(o:Bool)(most:Int)(E:Ez)(D:Fz)(n boot:Int)(hn:0<=n/\n<64)(r:jkf)(hg:dGet D n=some r)(hb1:r.boot≠boot)(hl:0<jfi r.boot boot/\jfi r.boot boot<32768)(hE:dGet E n=none)(i i1 i2:Nat)(h:Hp)(hi:h[i]?=some (some (jgg x o most i1 i2)))(h1:h[i1]?=some (some (mapC entV E)))(h2:h[i2]?=some (some (mapC jfa D)))(hii:i≠i1/\i≠i2/\i1≠i2)(K:Nat)(hK:h[K]?=some none)(hKi:K≠i1/\K≠i2):
  CallAll prog 82 [xd i,xc n,xc boot] h (λv ms=>∃q:Nat×Nat,v=.tuple ⟨[jfa ⟨boot,false,q⟩,xc 0]⟩/\ms=[(i1,mapC entV (jfs E n)),(i2,mapC jfa D),(K,winX (atX q) Win.zero)]):=by
 refine qav (qa7 (G:=tys) (λ_:Unit=>True) (λ_=>_) (α:=Nat×Nat) (λ_=>True) (λq=>.tuple ⟨[jfa ⟨boot,false,q⟩,xc 0]⟩) [⟨i,_,jhj most,noC⟩,⟨i1,mapC entV E,mapC entV E,mapC entV E⟩,⟨i2,mapC jfa D,mapC jfa D,mapC jfa D⟩] (λ_=>[noC,mapC entV (jfs E n),mapC jfa D]) (λq=>[⟨K,6,winX (atX q) Win.zero⟩]) [xd 0,xc n,xc boot] tysOK mixed func82 Q9S (call82) ⟨hi,h1,h2,xb⟩
  Q7Y (λ_ _=>Q7Y) Qac Q8i (λq _=>⟨⟨hK,rfl,.inl QaW,by simp⟩,xb⟩) Q85 Opens.same ?_) ?_
 rotate_left
 .exact Q3P
 rintro⟨⟩ -
 have hbe:jfs E n=E:=by unfold jfs;rw[hE]
 rw[hbe]
 repeat' (refine Ba ?_;first|refine Q5V ?_|refine Q5R ?_|refine Q79 ?_|refine Q7q ?_|refine Q7s ?_|refine Bf (by rw[xg hl];rfl) ?_|fail)
 refine Ba ?_
 refine qip (k:=6) (λq=>.tuple ⟨[jfa ⟨boot,false,q⟩,xc 0]⟩) Q9S (λq ρ hρ=>by simp[den,den2,den1,den0,jft,jfd,hρ]) λq=>?_
 refine Bl ?_
 refine Bn q ⟨xb,?_⟩
 refine Bc (.plain rfl) ?_
 refine Bc Q9g ?_
 refine Bc Q8K ?_
 refine Bc Q8x ?_
 exact Be
theorem jme{x:Ext}:∀j,j<3->(winX x W).f j=winF W j:=λj hj=>by
 match j,hj with
 | 0,_=>rfl
 | 1,_=>rfl
 | 2,_=>rfl
theorem qqo(W:Win):∀j,j<3->qbh (winF W j)=true:=λj hj=>by
 match j,hj with
 | 0,_=>rfl
 | 1,_=>rfl
 | 2,_=>rfl
theorem qkl{i:Nat}{c d:Chunk}(T:Tbl)(n:Int)(l:jg7)(hl:T.lives n=some l):Opens [⟨i,c,tblC T,d⟩] (λκ:LB×(Nat×Nat)=>dGet κ.1.D n=some ⟨l.boot,l.left,κ.2⟩/\qba T.lives ⟨κ.1.D,(κ.2,l.W)::κ.1.F⟩)
  (λκ=>[some (mainC κ.1.F T.most),some (mapC entV T.E),some (mapC jfa κ.1.D),some (winX (atX κ.2) l.W)]):=λX ρ w Ti H=>by
 obtain⟨β,hβ,ρ1,hag,hfil,H1⟩:=qau (h:=jgs T) X ρ w Ti H
 obtain⟨q,hg,hW⟩:=qct hβ hl
 obtain⟨s,t,hF⟩:=List.append_of_mem hW
 have hp:β.F.Perm ((q,l.W)::(s++t)):=by rw[hF];exact List.perm_middle
 have hsame:SameH (jgs T β) [some (mainC β.F T.most),some (mapC entV T.E),some (mapC jfa β.D),none]:=λk e=>by
  match k with
  | 0=>exact Iff.rfl
  | 1=>exact Iff.rfl
  | 2=>exact Iff.rfl
  | 3=>simp
  | k+4=>simp
 have H2:=H1.same hsame
 obtain⟨ρ2,hag2,H3⟩:=H2.famOut (o:=true) (i:=0) (k:=3) (e:=winX (atX q) l.W) Q9V rfl rfl (Ti.mayX H2 (k:=0) rfl (qnw T) qa8) hp rfl rfl jme (qqo l.W)
 refine⟨(⟨β.D,s++t⟩,q),⟨hg,?_⟩,ρ2,λk hk=>?_,λk hk=>?_,H3⟩
 .refine⟨hβ.1,λm r hr=>?_,hβ.2.2⟩;obtain⟨W,h1,h2⟩:=hβ.2.1 m r hr;exact⟨W,hp.mem_iff.1 h1,h2⟩
 .have hf:=hfil k hk;rw[hag2 k ((hsame.fil k).2 hf)];exact hag k hk
 .obtain⟨e,he⟩:=hk;have:k=0:=by
   cases k with
   | zero=>rfl
   | succ k=>simp[partH] at he
  subst this;exact⟨_,rfl⟩
def qga(most:Int)(E:Ez)(n boot now:Int):Ez:=
 dPut (if dGet E n=none/\most<=E.length then jfw E (minT (entT E) E.length).node else E) n { (dGet E n).getD Ent.zero with node:=n,boot:=boot,heard:=now }
def qdo(n boot seq now:Int):Prop:=(0<=n/\n<64)/\jf8 boot/\jf8 seq/\(0<=now/\now<=1000000)
theorem q2w(T:Tbl)(n boot seq now:Int)(ha:¬ qdo n boot seq now)(i:Nat)(h:Hp)(hi:h[i]?=some (some (tblC T))):
  qae prog 48 [xd i,xc n,xc boot,xc seq,xc now] h (xc 1) [(i,tblC (T))] []:=by
 refine qar (G:=tys) (qba T.lives) (jgs T) [⟨i,tblC T,tblC T,tblC (T)⟩] [] [xd 0,xc n,xc boot,xc seq,xc now] tysOK mixed func48 Q9S (call48) ⟨hi,xb⟩ ⟨Q7X,xb⟩ Q9X Q81 xb Q84 qau ?_
 intro β hβ
 repeat' (refine Ba ?_;first|refine Q5V ?_|refine Q5R ?_|refine Bb (qfs _ _) ?_|refine Bb (qch _ _) ?_|refine Bb (qe7 _ _) ?_|with_reducible refine Bj (λhb=>?_) (λhb=>?_)|refine Q6e ?_|refine Q5Z ?_|exact Be|fail)
 all_goals
  exfalso
  simp only[yS,yJ,ym,xh,xm,qdo,jf8] at *
  omega
theorem jbg(T:Tbl)(n boot seq now:Int)(ha:qdo n boot seq now)(l:jg7)(hl:T.lives n=some l)(hb1:l.boot=boot)(hlf:l.left=true)(i:Nat)(h:Hp)(hi:h[i]?=some (some (tblC T))):
  qae prog 48 [xd i,xc n,xc boot,xc seq,xc now] h (xc 9) [(i,tblC (T))] []:=by
 refine qar (G:=tys) (qba T.lives) (jgs T) [⟨i,tblC T,tblC T,tblC (T)⟩] [] [xd 0,xc n,xc boot,xc seq,xc now] tysOK mixed func48 Q9S (call48) ⟨hi,xb⟩ ⟨Q7X,xb⟩ Q9X Q81 xb Q84 qau ?_
 intro β hβ
 obtain⟨q,hg,hW⟩:=qct hβ hl
 repeat' (refine Ba ?_;first|refine Q5V ?_|refine Q5R ?_|refine Q5Y ?_|refine Bb (q7p _ _ _ _ _ _ _ ⟨l.boot,l.left,q⟩ hg hb1 hlf 0 1 2 _ Q9S Q9S Q9S Q9V) ?_|refine Bx ?_|refine Q6e ?_|refine Q5Z ?_|exact Be|fail)
theorem jbh(T:Tbl)(n boot seq now:Int)(ha:qdo n boot seq now)(l:jg7)(hl:T.lives n=some l)(hb1:l.boot≠boot)(hlf:¬ (0<jfi l.boot boot/\jfi l.boot boot<32768))(i:Nat)(h:Hp)(hi:h[i]?=some (some (tblC T))):
  qae prog 48 [xd i,xc n,xc boot,xc seq,xc now] h (xc 9) [(i,tblC (T))] []:=by
 refine qar (G:=tys) (qba T.lives) (jgs T) [⟨i,tblC T,tblC T,tblC (T)⟩] [] [xd 0,xc n,xc boot,xc seq,xc now] tysOK mixed func48 Q9S (call48) ⟨hi,xb⟩ ⟨Q7X,xb⟩ Q9X Q81 xb Q84 qau ?_
 intro β hβ
 obtain⟨q,hg,hW⟩:=qct hβ hl
 repeat' (refine Ba ?_;first|refine Q5V ?_|refine Q5R ?_|refine Q5Y ?_|refine Bb (q7q _ _ _ _ _ _ _ ⟨l.boot,l.left,q⟩ hg hb1 hlf 0 1 2 _ Q9S Q9S Q9S Q9V) ?_|refine Bx ?_|refine Q6e ?_|refine Q5Z ?_|exact Be|fail)
variable{w:World}
theorem HOK.sub{X:Ctx}{ρ:Rz}{h h':Hp}(H:HOK X ρ h w)(hb:∀i,i<X.n0->Fil h' i)(hs:∀(i:Nat)(c:Chunk),h'[i]?=some (some c)->h[i]?=some (some c)/\∀j,j<c.n->Safe1 h' (c.f j)):HOK X ρ h' w:=by
 refine⟨H.evo,λi hi=>⟨hb i hi,(H.base i hi).2⟩,λi c hi=>H.lt i c (hs i c hi).1,λi c hi j hj=>?_,λi c hi=>H.own i c (hs i c hi).1,λi c j d hi ho hj=>H.sep i c j d (hs i c hi).1 ho (hs j d hj).1,?_⟩
 .obtain⟨x,hx,hd⟩:=H.cell i c (hs i c hi).1 j hj;exact⟨x,hx,λr hr=>((hs i c hi).2 j hj).inScope ρ r hr |>.trans hd.self⟩
 .obtain⟨S,E⟩:=H.ext;exact E.less λi c hi=>⟨rfl,c,(hs i c hi).1,nlr _,.inr rfl⟩
variable{K:Value->Hp->Prop}
theorem qyo{ss:List je2}{h:Hp}{v:Value}(m:Nat)(hm:ss.length<=m)(hv:qam v=true)(hs:∀(i:Nat)(c:Chunk),(h.take m)[i]?=some (some c)->∀j,j<c.n->Safe1 (h.take m) (c.f j))(kk:N (EndN ss (h.take m) v K)):N (EndN ss h v K):=
 N.mk λX ρ w x T H hd=>by
  have get:∀(i:Nat)(c:Chunk),(h.take m)[i]?=some (some c)->h[i]?=some (some c):=λi c hi=>by
   rw[yL] at hi;split at hi
   .exact hi
   .cases hi
  refine N.out kk X ρ w x T (HOK.sub H (λi hi=>?_) λi c hi=>⟨get i c hi,hs i c hi⟩) (λr _=>by rw[qa5 hv,<-hd.self,qa5 hv]);obtain⟨c,hc⟩:=(H.base i hi).1;exact⟨c,by rw[yL,if_pos (by have:=T.n0;omega)];exact hc⟩
variable{F:List ((Nat×Nat)×Win)}{E:Ez}{D:Fz}{q:Nat×Nat}
theorem jn3{most:Int}:∀(i:Nat)(c:Chunk),([some (mainC F most),some (mapC entV E),some (mapC jfa D),some (winX (atX q) W)]:Hp)[i]?=some (some c)->∀j,j<c.n->Safe1 [some (mainC F most),some (mapC entV E),some (mapC jfa D),some (winX (atX q) W)] (c.f j):=λi c hi j hj=>by
 match i,hi with
 | 0,hi=>
  obtain rfl:_=c:=by simpa using hi
  match j,hj with
  | 0,_=>exact True.intro
  | 1,_=>exact rfl
  | 2,_=>exact rfl
 | 1,hi=>
       obtain rfl:_=c:=by simpa using hi
       exact Q5j
 | 2,hi=>
       obtain rfl:_=c:=by simpa using hi
       exact Q5j
 | 3,hi=>
  obtain rfl:_=c:=by simpa using hi
  match j,hj with
  | 0,_=>exact True.intro
  | 1,_=>exact True.intro
  | 2,_=>exact True.intro
 | k+4,hi=>simp at hi
theorem qf2{b:Int}{lf:Bool}(h:qba lv ⟨D,(q,W)::F⟩)(hg:dGet D n=some ⟨b,lf,q⟩)(hq:∀x∈F,x.1≠q)(W':Win):qba (jfl lv n ⟨b,lf,W'⟩) ⟨dPut D n ⟨b,lf,q⟩,(q,W')::F⟩:=by
 obtain⟨h1,h2,h3⟩:=h;have key:∀m s,dGet (dPut D n ⟨b,lf,q⟩) m=some s->dGet D m=some s:=λm s hs=>by
  by_cases e:m=n
  .subst e;rw[qbf] at hs;rw[hg,<-hs]
  .rw[qcs _ _ e] at hs;exact hs
 refine⟨λm hm=>?_,λm s hs=>?_,λm m' s s' hs hs' e=>h3 m m' s s' (key m s hs) (key m' s' hs') e⟩
 .exact Q3l
 .have hs2:=key m s hs;by_cases e:m=n
  .subst e;rw[hg] at hs2;obtain rfl:_=s:=by simpa using hs2
   exact⟨W',by simp,by unfold jfl;rw[if_pos rfl]⟩
  .obtain⟨W2,hW2,hl2⟩:=h2 m s hs2;refine⟨W2,?_,by unfold jfl;rw[if_neg e];exact hl2⟩;rcases xj.1 hW2 with e2|hW2
   .exact absurd (h3 m n s ⟨b,lf,q⟩ hs2 hg (Prod.mk.inj e2).1) e
   .exact yE _ hW2
theorem sc4{most:Int}:∀(l:Nat)(d:Chunk),l≠3->([some (mainC F most),some (mapC entV E),some (mapC jfa D),some (winX (atX q) W)]:Hp)[l]?=some (some d)->∀j,j<d.n->∀ρ ρ':Rz,(∀l,l≠3->ρ' l=ρ l)->den1 ρ' (d.f j)=den1 ρ (d.f j):=λl d hl hd j hj ρ ρ' ha=>by
 match l,hd with
 | 0,hd=>
  obtain rfl:_=d:=by simpa using hd
  match j,hj with
  | 0,_=>rfl
  | 1,_=>have:=ha 1 Q9V;show den1 ρ' (.map (some 1))=den1 ρ (.map (some 1));simp[den1,den0,this]
  | 2,_=>have:=ha 2 Q9V;show den1 ρ' (.map (some 2))=den1 ρ (.map (some 2));simp[den1,den0,this]
 | 1,hd=>
       obtain rfl:_=d:=by simpa using hd
       exact Q5j
 | 2,hd=>
       obtain rfl:_=d:=by simpa using hd
       exact Q5j
 | 3,_=>exact absurd rfl hl
 | k+4,hd=>simp at hd
theorem qc8{i:Nat}{c d:Chunk}{T:Tbl}{h:Hp}{v:Value}(T2:Tbl)(D:Fz)(F:List ((Nat×Nat)×Win))(q:Nat×Nat)(W:Win)(hv:qam v=true)(ht:h.take 4=[some (mainC F T2.most),some (mapC entV T2.E),some (mapC jfa D),some (winX (atX q) W)])(hok:(∀x∈F,x.1≠q)->qba T2.lives ⟨D,(q,W)::F⟩)
  (kk:K v (qck (tblC T2) 0 [] [some (mainC ((q,W)::F) T2.most),some (mapC entV T2.E),some (mapC jfa D),none] 0)):N (EndN [⟨i,c,tblC T,d⟩] h v K):=by
 refine qyo 4 (xT rfl) hv ?_ ?_
 .rw[ht];exact jn3
 rw[ht]
 refine qvy (i:=0) (k:=3) (q:=q) W Q9V Q9V rfl rfl Q9V (xT rfl) (λ_=>⟨_,rfl,qnw T,qa8⟩) rfl rfl (nlr _) jme (qqo W) sc4 hv λhq=>?_
 refine qb3 T2 ⟨D,(q,W)::F⟩ 0 1 2 [] (λl _ hl=>by
  obtain rfl:l=0:=by simpa using hl
  exact⟨_,rfl,qnw T,qa8⟩) (λi hi=>.inl Qa4) (hok hq) rfl rfl rfl rfl rfl rfl rfl rfl rfl Q9V (λk hk=>by cases hk) jg8 (qbn hv) kk
theorem q2x(T:Tbl)(n boot seq now:Int)(ha:qdo n boot seq now)(l:jg7)(hl:T.lives n=some l)(hb1:l.boot=boot)(hlf:l.left=false)(hs:l.W.seen<18446744073709551616)(W':Win)(hw:whear l.W seq=(9,W'))(i:Nat)(h:Hp)(hi:h[i]?=some (some (tblC T))):
  qae prog 48 [xd i,xc n,xc boot,xc seq,xc now] h (xc 9) [(i,tblC (⟨T.most,T.E,jfl T.lives n ⟨boot,false,W'⟩⟩))] []:=by
 refine qar (G:=tys) (λκ:LB×(Nat×Nat)=>dGet κ.1.D n=some ⟨l.boot,l.left,κ.2⟩/\qba T.lives ⟨κ.1.D,(κ.2,l.W)::κ.1.F⟩) (λκ=>[some (mainC κ.1.F T.most),some (mapC entV T.E),some (mapC jfa κ.1.D),some (winX (atX κ.2) l.W)]) [⟨i,tblC T,tblC T,tblC (⟨T.most,T.E,jfl T.lives n ⟨boot,false,W'⟩⟩)⟩] [] [xd 0,xc n,xc boot,xc seq,xc now] tysOK mixed func48 Q9S (call48) ⟨hi,xb⟩ ⟨Q7X,xb⟩ Q9X Q81 xb Q84 (qkl T n l hl) ?_
 rintro⟨⟨D,F⟩,q⟩ ⟨hg,hβ⟩
 have hg:dGet D n=some ⟨l.boot,l.left,q⟩:=hg
 have hg2:dGet D n=some ⟨boot,false,q⟩:=by rw[hg,hb1,hlf]
 have hn:=ha.1
 repeat' (refine Ba ?_;first|refine Q5V ?_|refine Q5R ?_|refine Q5Y ?_|refine Bb (qn4 _ _ _ _ _ _ _ ⟨l.boot,l.left,q⟩ hg hb1 hlf 0 1 2 _ Q9S Q9S Q9S Q9V) ?_|refine jgx jfa D ⟨boot,false,q⟩ rfl rfl ⟨by omega,by omega⟩ rfl underlying129 underlying3 ?_|refine Bb (qff [xd 3,xc seq] Q9S rfl ⟨.ptr,.same _,xb⟩ (.inr ⟨_,.head _⟩) (qhy (atX q) l.W W' seq 9 3 hs ha.2.2.1 hw _ Q9S)) ?_|refine Bx ?_|refine Bz ?_|fail)
 refine Ba ?_
 refine qc8 ⟨T.most,T.E,jfl T.lives n ⟨boot,false,W'⟩⟩ _ F q W' rfl Q9S (λhq=>qf2 hβ hg2 hq W') ?_
 repeat' (refine Ba ?_;first|refine Q5V ?_|refine Q5R ?_|refine Q5Z ?_|exact Be|fail)
theorem qdu{b:Int}{lf:Bool}(h:qba lv ⟨D,F⟩)(hq:∀x∈F,x.1≠q)(W':Win):qba (jfl lv n ⟨b,lf,W'⟩) ⟨dPut D n ⟨b,lf,q⟩,(q,W')::F⟩:=by
 obtain⟨h1,h2,h3⟩:=h;have key:∀m s,dGet (dPut D n ⟨b,lf,q⟩) m=some s->(m=n/\s=⟨b,lf,q⟩)\/(m≠n/\dGet D m=some s):=λm s hs=>Q4q
 have noq:∀m s,dGet D m=some s->s.q≠q:=λm s hs e=>by
  obtain⟨W,hW,_⟩:=h2 m s hs;exact hq _ hW e
 refine⟨λm hm=>?_,λm s hs=>?_,λm m' s s' hs hs' e=>?_⟩
 .exact Q3l
 .rcases key m s hs with ⟨rfl,rfl⟩|⟨e,hs⟩
  .exact⟨W',by simp,by unfold jfl;rw[if_pos rfl]⟩
  .obtain⟨W2,hW2,hl2⟩:=h2 m s hs;exact⟨W2,yE _ hW2,by unfold jfl;rw[if_neg e];exact hl2⟩
 .have k1:=key m s hs;have k2:=key m' s' hs';clear hs hs';rcases k1 with ⟨rfl,rfl⟩|⟨e1,hs⟩<;>rcases k2 with ⟨rfl,rfl⟩|⟨e2,hs'⟩
  .rfl
  .exact absurd e.symm (noq _ _ hs')
  .exact absurd e (noq _ _ hs)
  .exact h3 _ _ _ _ hs hs' e
theorem qsc(T:Tbl)(n boot seq now:Int)(ha:qdo n boot seq now)(l:jg7)(hl:T.lives n=some l)(hb1:l.boot=boot)(hlf:l.left=false)(hs:l.W.seen<18446744073709551616)(W':Win)(hw:whear l.W seq=(0,W'))(e0:Ent)(hth:dGet (T.E) n=some e0)(E':Ez)(hE':E'=dPut (T.E) n ⟨n,boot,now,e0.has,e0.x,e0.y,e0.a,e0.b,e0.d,e0.when_⟩)(i:Nat)(h:Hp)(hi:h[i]?=some (some (tblC T))):
  qae prog 48 [xd i,xc n,xc boot,xc seq,xc now] h (xc 0) [(i,tblC (⟨T.most,E',jfl T.lives n ⟨boot,false,W'⟩⟩))] []:=by
 refine qar (G:=tys) (λκ:LB×(Nat×Nat)=>dGet κ.1.D n=some ⟨l.boot,l.left,κ.2⟩/\qba T.lives ⟨κ.1.D,(κ.2,l.W)::κ.1.F⟩) (λκ=>[some (mainC κ.1.F T.most),some (mapC entV T.E),some (mapC jfa κ.1.D),some (winX (atX κ.2) l.W)]) [⟨i,tblC T,tblC T,tblC (⟨T.most,E',jfl T.lives n ⟨boot,false,W'⟩⟩)⟩] [] [xd 0,xc n,xc boot,xc seq,xc now] tysOK mixed func48 Q9S (call48) ⟨hi,xb⟩ ⟨Q7X,xb⟩ Q9X Q81 xb Q84 (qkl T n l hl) ?_
 rintro⟨⟨D,F⟩,q⟩ ⟨hg,hβ⟩
 have hg:dGet D n=some ⟨l.boot,l.left,q⟩:=hg
 have hg2:dGet D n=some ⟨boot,false,q⟩:=by rw[hg,hb1,hlf]
 have hn:=ha.1
 subst hE'
 repeat' (refine Ba ?_;first|refine Q5V ?_|refine Q5R ?_|refine Q5Y ?_|refine Q6j ?_|refine qb7 entV (T.E) rfl underlying128 underlying3 type114 rfl (.tuple ⟨[entV e0,.bool true]⟩) (by rw[hth];rfl) rfl ?_|refine jgx entV (T.E) ⟨n,boot,now,e0.has,e0.x,e0.y,e0.a,e0.b,e0.d,e0.when_⟩ rfl rfl ⟨by omega,by omega⟩ rfl underlying128 underlying3 ?_|refine Bz ?_|fail)
 refine Ba ?_
 refine qc8 ⟨T.most,_,jfl T.lives n ⟨boot,false,W'⟩⟩ _ F q W' rfl Q9S (λhq=>qf2 hβ hg2 hq W') ?_
 repeat' (refine Ba ?_;first|refine Q5V ?_|refine Q5R ?_|refine Q5Z ?_|exact Be|fail)
theorem qv5(T:Tbl)(n boot seq now:Int)(ha:qdo n boot seq now)(l:jg7)(hl:T.lives n=some l)(hb1:l.boot=boot)(hlf:l.left=false)(hs:l.W.seen<18446744073709551616)(W':Win)(hw:whear l.W seq=(0,W'))(hth:dGet (T.E) n=none)(hrm:(T.E).length<T.most)(E':Ez)(hE':E'=dPut (T.E) n ⟨n,boot,now,Ent.zero.has,Ent.zero.x,Ent.zero.y,Ent.zero.a,Ent.zero.b,Ent.zero.d,Ent.zero.when_⟩)(i:Nat)(h:Hp)(hi:h[i]?=some (some (tblC T))):
  qae prog 48 [xd i,xc n,xc boot,xc seq,xc now] h (xc 0) [(i,tblC (⟨T.most,E',jfl T.lives n ⟨boot,false,W'⟩⟩))] []:=by
 refine qar (G:=tys) (λκ:LB×(Nat×Nat)=>dGet κ.1.D n=some ⟨l.boot,l.left,κ.2⟩/\qba T.lives ⟨κ.1.D,(κ.2,l.W)::κ.1.F⟩) (λκ=>[some (mainC κ.1.F T.most),some (mapC entV T.E),some (mapC jfa κ.1.D),some (winX (atX κ.2) l.W)]) [⟨i,tblC T,tblC T,tblC (⟨T.most,E',jfl T.lives n ⟨boot,false,W'⟩⟩)⟩] [] [xd 0,xc n,xc boot,xc seq,xc now] tysOK mixed func48 Q9S (call48) ⟨hi,xb⟩ ⟨Q7X,xb⟩ Q9X Q81 xb Q84 (qkl T n l hl) ?_
 rintro⟨⟨D,F⟩,q⟩ ⟨hg,hβ⟩
 have hg:dGet D n=some ⟨l.boot,l.left,q⟩:=hg
 have hg2:dGet D n=some ⟨boot,false,q⟩:=by rw[hg,hb1,hlf]
 have hn:=ha.1
 subst hE'
 repeat' (refine Ba ?_;first|refine Q5V ?_|refine Q5R ?_|refine Q5Y ?_|refine Q6j ?_|refine Q6g ?_|refine Q60 ?_|refine Q6D ?_|fail)
 refine Ba ?_
 refine qc8 ⟨T.most,_,jfl T.lives n ⟨boot,false,W'⟩⟩ _ F q W' rfl Q9S (λhq=>qf2 hβ hg2 hq W') ?_
 repeat' (refine Ba ?_;first|refine Q5V ?_|refine Q5R ?_|refine Q5Z ?_|exact Be|fail)
theorem qv6(T:Tbl)(n boot seq now:Int)(ha:qdo n boot seq now)(l:jg7)(hl:T.lives n=some l)(hb1:l.boot=boot)(hlf:l.left=false)(hs:l.W.seen<18446744073709551616)(W':Win)(hw:whear l.W seq=(0,W'))(hth:dGet (T.E) n=none)(hrm:T.most<=(T.E).length)(hE:(T.E).length<=64)(hpos:0<(T.E).length)(E':Ez)(hE':E'=dPut (jfw (T.E) (minT (entT (T.E)) (T.E).length).node) n ⟨n,boot,now,Ent.zero.has,Ent.zero.x,Ent.zero.y,Ent.zero.a,Ent.zero.b,Ent.zero.d,Ent.zero.when_⟩)(i:Nat)(h:Hp)(hi:h[i]?=some (some (tblC T))):
  qae prog 48 [xd i,xc n,xc boot,xc seq,xc now] h (xc 0) [(i,tblC (⟨T.most,E',jfl T.lives n ⟨boot,false,W'⟩⟩))] []:=by
 refine qar (G:=tys) (λκ:LB×(Nat×Nat)=>dGet κ.1.D n=some ⟨l.boot,l.left,κ.2⟩/\qba T.lives ⟨κ.1.D,(κ.2,l.W)::κ.1.F⟩) (λκ=>[some (mainC κ.1.F T.most),some (mapC entV T.E),some (mapC jfa κ.1.D),some (winX (atX κ.2) l.W)]) [⟨i,tblC T,tblC T,tblC (⟨T.most,E',jfl T.lives n ⟨boot,false,W'⟩⟩)⟩] [] [xd 0,xc n,xc boot,xc seq,xc now] tysOK mixed func48 Q9S (call48) ⟨hi,xb⟩ ⟨Q7X,xb⟩ Q9X Q81 xb Q84 (qkl T n l hl) ?_
 rintro⟨⟨D,F⟩,q⟩ ⟨hg,hβ⟩
 have hg:dGet D n=some ⟨l.boot,l.left,q⟩:=hg
 have hg2:dGet D n=some ⟨boot,false,q⟩:=by rw[hg,hb1,hlf]
 have hn:=ha.1
 subst hE'
 repeat' (refine Ba ?_;first|refine Q5V ?_|refine Q5R ?_|refine Q5Y ?_|refine Q6j ?_|refine Q6g ?_|refine Q64 ?_|refine Bb (qyn _ true T.most (T.E) (dPut D n ⟨boot,false,q⟩) hE hpos 0 1 2 _ Q9S Q9S Q9S Q9V) ?_|refine Q6r ?_|fail)
 refine Ba ?_
 refine qc8 ⟨T.most,_,jfl T.lives n ⟨boot,false,W'⟩⟩ _ F q W' rfl Q9S (λhq=>qf2 hβ hg2 hq W') ?_
 repeat' (refine Ba ?_;first|refine Q5V ?_|refine Q5R ?_|refine Q5Z ?_|exact Be|fail)
open Go Go.RowKit Sx
theorem qqp(T:Tbl)(n boot seq now:Int)(ha:qdo n boot seq now)(l:jg7)(hl:T.lives n=some l)(hb1:l.boot≠boot)(hls:0<jfi l.boot boot/\jfi l.boot boot<32768)(e:Ent)(hEn:dGet T.E n=some e)(E':Ez)(hE':E'=dPut (dPut T.E n ⟨n,e.boot,e.heard,false,0,0,0,0,0,0⟩) n ⟨n,boot,now,false,0,0,0,0,0,0⟩)(i:Nat)(h:Hp)(hi:h[i]?=some (some (tblC T))):
  qae prog 48 [xd i,xc n,xc boot,xc seq,xc now] h (xc 0) [(i,tblC (⟨T.most,E',jfl T.lives n ⟨boot,false,⟨true,seq,1⟩⟩⟩))] []:=by
 refine qar (G:=tys) (qba T.lives) (jgs T) [⟨i,tblC T,tblC T,tblC (⟨T.most,E',jfl T.lives n ⟨boot,false,⟨true,seq,1⟩⟩⟩)⟩] [] [xd 0,xc n,xc boot,xc seq,xc now] tysOK mixed func48 Q9S (call48) ⟨hi,xb⟩ ⟨Q7X,xb⟩ Q9X Q81 xb Q84 qau ?_
 intro β hβ
 have hn:=ha.1
 obtain⟨q0,hg,hW⟩:=qct hβ hl
 have hth:dGet (dPut T.E n ⟨n,e.boot,e.heard,false,0,0,0,0,0,0⟩) n=some ⟨n,e.boot,e.heard,false,0,0,0,0,0,0⟩:=qbf _ _ _
 have hbe:jfs T.E n=dPut T.E n ⟨n,e.boot,e.heard,false,0,0,0,0,0,0⟩:=by unfold jfs;rw[hEn]
 subst hE'
 repeat' (refine Ba ?_;first|refine Q5V ?_|refine Q5R ?_|refine Q5Y ?_|fail)
 refine Ba ?_
 refine Bh (q2v _ _ _ _ _ _ _ hn ⟨l.boot,l.left,q0⟩ hg hb1 hls e hEn 0 1 2 _ Q9S Q9S Q9S Q9V 3 Q9S Q9V) λv ms hR=>?_
 obtain⟨q,rfl,rfl⟩:=hR
 rw[hbe]
 repeat' (refine Ba ?_;first|refine Q5V ?_|refine Q5R ?_|refine Q68 ?_|refine Q6F ?_|fail)
 refine Ba ?_
 refine qc8 ⟨T.most,_,jfl T.lives n ⟨boot,false,⟨true,seq,1⟩⟩⟩ _ β.F q ⟨true,seq,1⟩ rfl Q9S (λhq=>qdu hβ hq _) ?_
 repeat' (refine Ba ?_;first|refine Q5V ?_|refine Q5R ?_|refine Q5Z ?_|exact Be|fail)
theorem qsd(T:Tbl)(n boot seq now:Int)(ha:qdo n boot seq now)(l:jg7)(hl:T.lives n=some l)(hb1:l.boot≠boot)(hls:0<jfi l.boot boot/\jfi l.boot boot<32768)(hth:dGet (T.E) n=none)(hrm:(T.E).length<T.most)(E':Ez)(hE':E'=dPut (T.E) n ⟨n,boot,now,Ent.zero.has,Ent.zero.x,Ent.zero.y,Ent.zero.a,Ent.zero.b,Ent.zero.d,Ent.zero.when_⟩)(i:Nat)(h:Hp)(hi:h[i]?=some (some (tblC T))):
  qae prog 48 [xd i,xc n,xc boot,xc seq,xc now] h (xc 0) [(i,tblC (⟨T.most,E',jfl T.lives n ⟨boot,false,⟨true,seq,1⟩⟩⟩))] []:=by
 refine qar (G:=tys) (qba T.lives) (jgs T) [⟨i,tblC T,tblC T,tblC (⟨T.most,E',jfl T.lives n ⟨boot,false,⟨true,seq,1⟩⟩⟩)⟩] [] [xd 0,xc n,xc boot,xc seq,xc now] tysOK mixed func48 Q9S (call48) ⟨hi,xb⟩ ⟨Q7X,xb⟩ Q9X Q81 xb Q84 qau ?_
 intro β hβ
 have hn:=ha.1
 obtain⟨q0,hg,hW⟩:=qct hβ hl
 have hbe:jfs T.E n=T.E:=by unfold jfs;rw[hth]
 subst hE'
 repeat' (refine Ba ?_;first|refine Q5V ?_|refine Q5R ?_|refine Q5Y ?_|fail)
 refine Ba ?_
 refine Bh Q94 λv ms hR=>?_
 obtain⟨q,rfl,rfl⟩:=hR
 rw[hbe]
 repeat' (refine Ba ?_;first|refine Q5V ?_|refine Q5R ?_|refine Q68 ?_|refine Q6g ?_|refine Q60 ?_|refine Q6D ?_|fail)
 refine Ba ?_
 refine qc8 ⟨T.most,_,jfl T.lives n ⟨boot,false,⟨true,seq,1⟩⟩⟩ _ β.F q ⟨true,seq,1⟩ rfl Q9S (λhq=>qdu hβ hq _) ?_
 repeat' (refine Ba ?_;first|refine Q5V ?_|refine Q5R ?_|refine Q5Z ?_|exact Be|fail)
theorem qse(T:Tbl)(n boot seq now:Int)(ha:qdo n boot seq now)(l:jg7)(hl:T.lives n=some l)(hb1:l.boot≠boot)(hls:0<jfi l.boot boot/\jfi l.boot boot<32768)(hth:dGet (T.E) n=none)(hrm:T.most<=(T.E).length)(hE:(T.E).length<=64)(hpos:0<(T.E).length)(E':Ez)(hE':E'=dPut (jfw (T.E) (minT (entT (T.E)) (T.E).length).node) n ⟨n,boot,now,Ent.zero.has,Ent.zero.x,Ent.zero.y,Ent.zero.a,Ent.zero.b,Ent.zero.d,Ent.zero.when_⟩)(i:Nat)(h:Hp)(hi:h[i]?=some (some (tblC T))):
  qae prog 48 [xd i,xc n,xc boot,xc seq,xc now] h (xc 0) [(i,tblC (⟨T.most,E',jfl T.lives n ⟨boot,false,⟨true,seq,1⟩⟩⟩))] []:=by
 refine qar (G:=tys) (qba T.lives) (jgs T) [⟨i,tblC T,tblC T,tblC (⟨T.most,E',jfl T.lives n ⟨boot,false,⟨true,seq,1⟩⟩⟩)⟩] [] [xd 0,xc n,xc boot,xc seq,xc now] tysOK mixed func48 Q9S (call48) ⟨hi,xb⟩ ⟨Q7X,xb⟩ Q9X Q81 xb Q84 qau ?_
 intro β hβ
 have hn:=ha.1
 obtain⟨q0,hg,hW⟩:=qct hβ hl
 have hbe:jfs T.E n=T.E:=by unfold jfs;rw[hth]
 subst hE'
 repeat' (refine Ba ?_;first|refine Q5V ?_|refine Q5R ?_|refine Q5Y ?_|fail)
 refine Ba ?_
 refine Bh Q94 λv ms hR=>?_
 obtain⟨q,rfl,rfl⟩:=hR
 rw[hbe]
 repeat' (refine Ba ?_;first|refine Q5V ?_|refine Q5R ?_|refine Q68 ?_|refine Q6g ?_|refine Q64 ?_|refine Q7J ?_|refine Q6r ?_|fail)
 refine Ba ?_
 refine qc8 ⟨T.most,_,jfl T.lives n ⟨boot,false,⟨true,seq,1⟩⟩⟩ _ β.F q ⟨true,seq,1⟩ rfl Q9S (λhq=>qdu hβ hq _) ?_
 repeat' (refine Ba ?_;first|refine Q5V ?_|refine Q5R ?_|refine Q5Z ?_|exact Be|fail)
theorem qqq(T:Tbl)(n boot seq now:Int)(ha:qdo n boot seq now)(hl:T.lives n=none)(e:Ent)(hEn:dGet T.E n=some e)(E':Ez)(hE':E'=dPut (dPut T.E n ⟨n,e.boot,e.heard,false,0,0,0,0,0,0⟩) n ⟨n,boot,now,false,0,0,0,0,0,0⟩)(i:Nat)(h:Hp)(hi:h[i]?=some (some (tblC T))):
  qae prog 48 [xd i,xc n,xc boot,xc seq,xc now] h (xc 0) [(i,tblC (⟨T.most,E',jfl T.lives n ⟨boot,false,⟨true,seq,1⟩⟩⟩))] []:=by
 refine qar (G:=tys) (qba T.lives) (jgs T) [⟨i,tblC T,tblC T,tblC (⟨T.most,E',jfl T.lives n ⟨boot,false,⟨true,seq,1⟩⟩⟩)⟩] [] [xd 0,xc n,xc boot,xc seq,xc now] tysOK mixed func48 Q9S (call48) ⟨hi,xb⟩ ⟨Q7X,xb⟩ Q9X Q81 xb Q84 qau ?_
 intro β hβ
 have hn:=ha.1
 have hg:=qfa hβ hl
 have hth:dGet (dPut T.E n ⟨n,e.boot,e.heard,false,0,0,0,0,0,0⟩) n=some ⟨n,e.boot,e.heard,false,0,0,0,0,0,0⟩:=qbf _ _ _
 have hbe:jfs T.E n=dPut T.E n ⟨n,e.boot,e.heard,false,0,0,0,0,0,0⟩:=by unfold jfs;rw[hEn]
 subst hE'
 repeat' (refine Ba ?_;first|refine Q5V ?_|refine Q5R ?_|refine Q5Y ?_|fail)
 refine Ba ?_
 refine Bh (q2u _ _ _ _ _ _ _ hn hg e hEn 0 1 2 _ Q9S Q9S Q9S Q9V 3 Q9S Q9V) λv ms hR=>?_
 obtain⟨q,rfl,rfl⟩:=hR
 rw[hbe]
 repeat' (refine Ba ?_;first|refine Q5V ?_|refine Q5R ?_|refine Q68 ?_|refine Q6F ?_|fail)
 refine Ba ?_
 refine qc8 ⟨T.most,_,jfl T.lives n ⟨boot,false,⟨true,seq,1⟩⟩⟩ _ β.F q ⟨true,seq,1⟩ rfl Q9S (λhq=>qdu hβ hq _) ?_
 repeat' (refine Ba ?_;first|refine Q5V ?_|refine Q5R ?_|refine Q5Z ?_|exact Be|fail)
theorem qsf(T:Tbl)(n boot seq now:Int)(ha:qdo n boot seq now)(hl:T.lives n=none)(hth:dGet (T.E) n=none)(hrm:(T.E).length<T.most)(E':Ez)(hE':E'=dPut (T.E) n ⟨n,boot,now,Ent.zero.has,Ent.zero.x,Ent.zero.y,Ent.zero.a,Ent.zero.b,Ent.zero.d,Ent.zero.when_⟩)(i:Nat)(h:Hp)(hi:h[i]?=some (some (tblC T))):
  qae prog 48 [xd i,xc n,xc boot,xc seq,xc now] h (xc 0) [(i,tblC (⟨T.most,E',jfl T.lives n ⟨boot,false,⟨true,seq,1⟩⟩⟩))] []:=by
 refine qar (G:=tys) (qba T.lives) (jgs T) [⟨i,tblC T,tblC T,tblC (⟨T.most,E',jfl T.lives n ⟨boot,false,⟨true,seq,1⟩⟩⟩)⟩] [] [xd 0,xc n,xc boot,xc seq,xc now] tysOK mixed func48 Q9S (call48) ⟨hi,xb⟩ ⟨Q7X,xb⟩ Q9X Q81 xb Q84 qau ?_
 intro β hβ
 have hn:=ha.1
 have hg:=qfa hβ hl
 have hbe:jfs T.E n=T.E:=by unfold jfs;rw[hth]
 subst hE'
 repeat' (refine Ba ?_;first|refine Q5V ?_|refine Q5R ?_|refine Q5Y ?_|fail)
 refine Ba ?_
 refine Bh Q9m λv ms hR=>?_
 obtain⟨q,rfl,rfl⟩:=hR
 rw[hbe]
 repeat' (refine Ba ?_;first|refine Q5V ?_|refine Q5R ?_|refine Q68 ?_|refine Q6g ?_|refine Q60 ?_|refine Q6D ?_|fail)
 refine Ba ?_
 refine qc8 ⟨T.most,_,jfl T.lives n ⟨boot,false,⟨true,seq,1⟩⟩⟩ _ β.F q ⟨true,seq,1⟩ rfl Q9S (λhq=>qdu hβ hq _) ?_
 repeat' (refine Ba ?_;first|refine Q5V ?_|refine Q5R ?_|refine Q5Z ?_|exact Be|fail)
theorem qsg(T:Tbl)(n boot seq now:Int)(ha:qdo n boot seq now)(hl:T.lives n=none)(hth:dGet (T.E) n=none)(hrm:T.most<=(T.E).length)(hE:(T.E).length<=64)(hpos:0<(T.E).length)(E':Ez)(hE':E'=dPut (jfw (T.E) (minT (entT (T.E)) (T.E).length).node) n ⟨n,boot,now,Ent.zero.has,Ent.zero.x,Ent.zero.y,Ent.zero.a,Ent.zero.b,Ent.zero.d,Ent.zero.when_⟩)(i:Nat)(h:Hp)(hi:h[i]?=some (some (tblC T))):
  qae prog 48 [xd i,xc n,xc boot,xc seq,xc now] h (xc 0) [(i,tblC (⟨T.most,E',jfl T.lives n ⟨boot,false,⟨true,seq,1⟩⟩⟩))] []:=by
 refine qar (G:=tys) (qba T.lives) (jgs T) [⟨i,tblC T,tblC T,tblC (⟨T.most,E',jfl T.lives n ⟨boot,false,⟨true,seq,1⟩⟩⟩)⟩] [] [xd 0,xc n,xc boot,xc seq,xc now] tysOK mixed func48 Q9S (call48) ⟨hi,xb⟩ ⟨Q7X,xb⟩ Q9X Q81 xb Q84 qau ?_
 intro β hβ
 have hn:=ha.1
 have hg:=qfa hβ hl
 have hbe:jfs T.E n=T.E:=by unfold jfs;rw[hth]
 subst hE'
 repeat' (refine Ba ?_;first|refine Q5V ?_|refine Q5R ?_|refine Q5Y ?_|fail)
 refine Ba ?_
 refine Bh Q9m λv ms hR=>?_
 obtain⟨q,rfl,rfl⟩:=hR
 rw[hbe]
 repeat' (refine Ba ?_;first|refine Q5V ?_|refine Q5R ?_|refine Q68 ?_|refine Q6g ?_|refine Q64 ?_|refine Q7J ?_|refine Q6r ?_|fail)
 refine Ba ?_
 refine qc8 ⟨T.most,_,jfl T.lives n ⟨boot,false,⟨true,seq,1⟩⟩⟩ _ β.F q ⟨true,seq,1⟩ rfl Q9S (λhq=>qdu hβ hq _) ?_
 repeat' (refine Ba ?_;first|refine Q5V ?_|refine Q5R ?_|refine Q5Z ?_|exact Be|fail)
instance(n boot seq now:Int):Decidable (qdo n boot seq now):=by unfold qdo;infer_instance
structure TOK(T:Tbl):Prop where
 most:1<=T.most/\T.most<=64
 len:T.E.length<=T.most
 seen:∀n l,T.lives n=some l->l.W.seen<18446744073709551616
def Tbl.win(T:Tbl)(n boot now:Int)(E:Ez)(W:Win):Tbl:=⟨T.most,qga T.most E n boot now,jfl T.lives n ⟨boot,false,W⟩⟩
def hearT(T:Tbl)(n boot seq now:Int):Int×Tbl:=
 if qdo n boot seq now then
  match T.lives n with
  | none=>(0,T.win n boot now (jfs T.E n) ⟨true,seq,1⟩)
  | some l=>
   if l.boot=boot then
    if l.left=true then (9,T)
    else if (whear l.W seq).1=0 then (0,T.win n boot now T.E (whear l.W seq).2)
    else (9,⟨T.most,T.E,jfl T.lives n ⟨boot,false,(whear l.W seq).2⟩⟩)
   else if 0<jfi l.boot boot/\jfi l.boot boot<32768 then (0,T.win n boot now (jfs T.E n) ⟨true,seq,1⟩)
   else (9,T)
 else (1,T)
theorem qyp(W:Win)(q:Int):(whear W q).1=0\/(whear W q).1=9:=by
 unfold whear;split
 .exact .inl rfl
 split
 .exact .inr rfl
 split
 .exact .inl rfl
 split
 .exact .inr rfl
 .exact .inl rfl
theorem qmx(W:Win)(q:Int)(h:W.seen<18446744073709551616):(whear W q).2.seen<18446744073709551616:=by
 unfold whear;split
 .show 1<_;decide
 split
 .exact h
 split
 .exact Nat.or_lt_two_pow (n:=64) (xr _ Q9V) Q9V
 split
 .exact h
 .exact Nat.or_lt_two_pow (n:=64) h (qr6 _ _)
theorem qli(D:List (Int×α))(k:Int)(a:α):(dPut D k a).length=if dGet D k=none then D.length+1 else D.length:=by
 unfold dPut;cases hg:dGet D k with
 | none=>simp
 | some b=>simp
theorem qmy(D:List (Int×α))(k:Int):(jfw D k).length<=D.length:=List.length_filter_le _ _
theorem qf3{most:Int}{boot now:Int}{e:Ent}(h:dGet E n=some e):qga most E n boot now=dPut E n ⟨n,boot,now,e.has,e.x,e.y,e.a,e.b,e.d,e.when_⟩:=by
 unfold qga;rw[if_neg (by rw[h];simp),h];rfl
theorem qhj{most:Int}{boot now:Int}(h:dGet E n=none)(hl:(E.length:Int)<most):qga most E n boot now=dPut E n ⟨n,boot,now,false,0,0,0,0,0,0⟩:=by
 unfold qga;rw[if_neg Q9R,h];rfl
theorem qhk{most:Int}{boot now:Int}(h:dGet E n=none)(hl:most<=(E.length:Int)):qga most E n boot now=dPut (jfw E (minT (entT E) E.length).node) n ⟨n,boot,now,false,0,0,0,0,0,0⟩:=by
 unfold qga;rw[if_pos ⟨h,hl⟩,h];rfl
theorem q7r(E:Ez)(n:Int):(jfs E n).length=E.length:=by
 unfold jfs;cases h:dGet E n with
 | none=>rfl
 | some e=>simp only;rw[qli,h];simp
theorem qn5(h:dGet E n=none):jfs E n=E:=by unfold jfs;rw[h]
theorem qn6{e:Ent}(h:dGet E n=some e):jfs E n=dPut E n ⟨n,e.boot,e.heard,false,0,0,0,0,0,0⟩:=by unfold jfs;rw[h]
theorem jn4(T:Tbl)(ok:TOK T)(n boot seq now e:Int)(T':Tbl)(he:hearT T n boot seq now=(e,T'))(i:Nat)(h:Hp)(hi:h[i]?=some (some (tblC T))):
  qae prog 48 [xd i,xc n,xc boot,xc seq,xc now] h (xc e) [(i,tblC T')] []:=by
 obtain⟨m1,m2⟩:=ok.most
 have hlen:=ok.len
 have hl64:T.E.length<=64:=by omega
 unfold hearT at he
 by_cases ha:qdo n boot seq now
 .rw[if_pos ha] at he;cases hl:T.lives n with
  | none=>
   rw[hl] at he;obtain⟨rfl,rfl⟩:=Prod.mk.inj he;unfold Tbl.win;cases hE:dGet T.E n with
   | some e0=>rw[qn6 hE];exact qqq T n boot seq now ha hl e0 hE _ (qf3 (qbf _ _ _)) i h hi
   | none=>
    rw[qn5 hE];by_cases hr:(T.E.length:Int)<T.most
    .exact qsf T n boot seq now ha hl hE hr _ (qhj hE hr) i h hi
    .exact qsg T n boot seq now ha hl hE Q9R hl64 Q9R _ (qhk hE Q9R) i h hi
  | some l=>
   rw[hl] at he;simp only at he;have hs:=ok.seen n l hl;by_cases hb:l.boot=boot
   .rw[if_pos hb] at he;cases hlf:l.left with
    | true=>
     rw[if_pos hlf] at he;obtain⟨rfl,rfl⟩:=Prod.mk.inj he;exact jbg T n boot seq now ha l hl hb hlf i h hi
    | false=>
     rw[if_neg (by rw[hlf];decide)] at he;obtain⟨e1,W1,hw⟩:∃e1 W1,whear l.W seq=(e1,W1):=⟨_,_,rfl⟩;have herr:=qyp l.W seq;rw[hw] at he herr;simp only at he herr;rcases herr with rfl|rfl
     .rw[if_pos rfl] at he;obtain⟨rfl,rfl⟩:=Prod.mk.inj he;unfold Tbl.win;cases hE:dGet T.E n with
      | some e0=>exact qsc T n boot seq now ha l hl hb hlf hs W1 hw e0 hE _ (qf3 hE) i h hi
      | none=>
       by_cases hr:(T.E.length:Int)<T.most
       .exact qv5 T n boot seq now ha l hl hb hlf hs W1 hw hE hr _ (qhj hE hr) i h hi
       .exact qv6 T n boot seq now ha l hl hb hlf hs W1 hw hE Q9R hl64 Q9R _ (qhk hE Q9R) i h hi
     .rw[if_neg Q9V] at he;obtain⟨rfl,rfl⟩:=Prod.mk.inj he;exact q2x T n boot seq now ha l hl hb hlf hs W1 hw i h hi
   .rw[if_neg hb] at he;by_cases hsd:0<jfi l.boot boot/\jfi l.boot boot<32768
    .rw[if_pos hsd] at he;obtain⟨rfl,rfl⟩:=Prod.mk.inj he;unfold Tbl.win;cases hE:dGet T.E n with
     | some e0=>rw[qn6 hE];exact qqp T n boot seq now ha l hl hb hsd e0 hE _ (qf3 (qbf _ _ _)) i h hi
     | none=>
      rw[qn5 hE];by_cases hr:(T.E.length:Int)<T.most
      .exact qsd T n boot seq now ha l hl hb hsd hE hr _ (qhj hE hr) i h hi
      .exact qse T n boot seq now ha l hl hb hsd hE Q9R hl64 Q9R _ (qhk hE Q9R) i h hi
    .rw[if_neg hsd] at he;obtain⟨rfl,rfl⟩:=Prod.mk.inj he;exact jbh T n boot seq now ha l hl hb hsd i h hi
 .rw[if_neg ha] at he;obtain⟨rfl,rfl⟩:=Prod.mk.inj he;exact q2w T n boot seq now ha i h hi
structure EOK(E:Ez):Prop where
 nodup:(E.map (·.1)).Nodup
 key:∀k e,dGet E k=some e->e.node=k
theorem qyq{α:Type}{D:List (Int×α)}{a:α}(h:(D.map (·.1)).Nodup):((dPut D k a).map (·.1)).Nodup:=by
 unfold dPut;cases hg:dGet D k with
 | none=>
  simp only[zq,xp,x8];refine List.nodup_append.2 ⟨h,by simp,λx hx y hy e=>?_⟩;simp only[yw] at hy;obtain⟨q,hq,rfl⟩:=xx.1 hx;exact dGet_none.1 hg q hq (e.trans hy)
 | some b=>
  simp only[zp];have:(λq:Int×α=>(if q.1=k then (k,a) else q).1)=λq=>q.1:=by
   funext q;by_cases e:q.1=k
   .rw[if_pos e,e]
   .rw[if_neg e]
  simpa[Function.comp_def,this] using h
theorem qyr{α:Type}{D:List (Int×α)}(h:(D.map (·.1)).Nodup):((jfw D k).map (·.1)).Nodup:=(List.filter_sublist.map _).nodup h
theorem EOK.put(h:EOK E)(e:Ent):EOK (dPut E e.node e):=⟨qyq h.nodup,λk x hx=>by
 by_cases hk:k=e.node
 .subst hk;rw[qbf] at hx;obtain rfl:e=x:=by simpa using hx
  rfl
 .rw[qcs _ _ hk] at hx;exact h.key k x hx⟩
theorem EOK.del(h:EOK E)(n:Int):EOK (jfw E n):=⟨qyr h.nodup,λk x hx=>by
 by_cases hk:k=n
 .subst hk;rw[qit] at hx;cases hx
 .rw[qlh _ hk] at hx;exact h.key k x hx⟩
theorem EOK.nil:EOK []:=⟨yN,λk e h=>by simp[dGet] at h⟩
theorem EOK.beg(h:EOK E)(n:Int):EOK (jfs E n):=by
 cases hg:dGet E n with
 | none=>rw[qn5 hg];exact h
 | some e=>rw[qn6 hg];exact h.put ⟨n,e.boot,e.heard,false,0,0,0,0,0,0⟩
theorem qub(T:Nat->Ent):∀n,1<=n->∃j,j<n/\minT T n=T j
 | 0,h=>absurd h Q9V
 | 1,_=>⟨0,by decide,rfl⟩
 | r+2,_=>by
  obtain⟨j,hj,e⟩:=qub T (r+1) Q9R;rw[qis T (r+1) Q9R];split
  .exact⟨r+1,by omega,rfl⟩
  .exact⟨j,by omega,e⟩
theorem qys{j:Nat}(h:j<E.length):∃k e,(sortK E)[j]?=some k/\dGet E k=some e/\entT E j=e:=by
 obtain⟨k,hk,e0,he0⟩:=qgm h;obtain⟨e,he⟩:=qir he0;exact⟨k,e,hk,he,qlf hk he⟩
theorem q2y(h:EOK E)(hp:0<E.length):∃e,dGet E (minT (entT E) E.length).node=some e/\minT (entT E) E.length=e:=by
 obtain⟨j,hj,e1⟩:=qub (entT E) E.length hp;obtain⟨k,e,_,he,e2⟩:=qys hj;rw[e1,e2,h.key k e he];exact⟨e,he,rfl⟩
theorem q7s{α:Type}{D:List (Int×α)}{a:α}(h:dGet D k=some a):(jfw D k).length<D.length:=by
 have hm:=qio h
 induction D with
 | nil=>cases hm
 | cons q D ih=>
  unfold jfw;rw[List.filter_cons];by_cases e:q.1=k
  .rw[if_neg Qbi];have:=qmy D k;unfold jfw at this;simp only[xS];omega
  .rw[if_pos Qbi];have h':dGet D k=some a:=by
    unfold dGet at h ⊢;rw[yU] at h;simpa[e] using h
   have:=ih h' (qio h');unfold jfw at this;simp only[xS];omega
theorem q2z{most:Int}(h:EOK E)(n boot now:Int):EOK (qga most E n boot now):=by
 unfold qga;split
 .exact(h.del _).put { (dGet E n).getD Ent.zero with node:=n,boot:=boot,heard:=now }
 .exact h.put { (dGet E n).getD Ent.zero with node:=n,boot:=boot,heard:=now }
theorem qyt{most:Int}(h:EOK E)(n boot now:Int)(hm:1<=most)(hl:(E.length:Int)<=most):((qga most E n boot now).length:Int)<=most:=by
 cases hg:dGet E n with
 | some e=>rw[qf3 hg,qli,if_neg (by rw[hg];simp)];exact hl
 | none=>
  by_cases hr:(E.length:Int)<most
  .rw[qhj hg hr,qli,if_pos hg];omega
  .rw[qhk hg Q9R];obtain⟨e,he,_⟩:=q2y h Q9R;have h1:=q7s he;rw[qli];split<;>omega
theorem q20{T T':Tbl}{boot seq now e:Int}(ok:TOK T)(hk:EOK T.E)(he:hearT T n boot seq now=(e,T')):TOK T'/\EOK T'.E/\T'.most=T.most:=by
 obtain⟨m1,m2⟩:=ok.most;have win:∀E W,EOK E->(E.length:Int)<=T.most->W.seen<18446744073709551616->TOK (T.win n boot now E W)/\EOK (T.win n boot now E W).E/\(T.win n boot now E W).most=T.most:=λE W hE hl hW=>by
  refine⟨⟨ok.most,qyt hE n boot now m1 hl,λm l hl'=>?_⟩,q2z hE n boot now,rfl⟩;unfold Tbl.win jfl at hl';simp only at hl';split at hl'
  .obtain rfl:_=l:=by simpa using hl'
   exact hW
  .exact ok.seen m l hl'
 have hb:((jfs T.E n).length:Int)<=T.most:=by rw[q7r];exact ok.len
 unfold hearT at he;split at he
 .split at he
  .exact Q55
  .rename_i l hl;have hs:=ok.seen n l hl;split at he
   .split at he
    .exact Q4L
    .split at he
     .obtain⟨rfl,rfl⟩:=Prod.mk.inj he;exact win _ _ hk ok.len (qmx _ _ hs)
     .obtain⟨rfl,rfl⟩:=Prod.mk.inj he;refine⟨⟨ok.most,ok.len,λm l' hl'=>?_⟩,hk,rfl⟩;unfold jfl at hl';simp only at hl';split at hl'
      .obtain rfl:_=l':=by simpa using hl'
       exact qmx _ _ hs
      .exact ok.seen m l' hl'
   .split at he
    .exact Q55
    .exact Q4L
 .exact Q4L
theorem q5x(most:Int):TOK (Tbl.new most)/\EOK (Tbl.new most).E:=⟨⟨by unfold Tbl.new;simp only;omega,by unfold Tbl.new;simp only[yh];omega,λn l h=>by cases h⟩,EOK.nil⟩
open Go Go.RowKit Sx
abbrev Bs:Nat:=18446744073709551616
theorem qbk:0<Bs:=by decide
theorem qbj(n:Nat):0<Bs^n:=yd qbk
def dg(v j:Nat):Nat:=v / Bs^j%Bs
theorem je9(v j:Nat):dg v j<18446744073709551616:=xr _ qbk
theorem qgo(j:Nat):dg 0 j=0:=by simp[dg]
theorem qcu(v j:Nat):v / Bs^j=v / Bs^(j+1)*Bs+dg v j:=by
 unfold dg;rw[yq,<-ya];have:=xz (v / Bs^j) Bs;rw[xk];exact this.symm
theorem qkm(v j:Nat):v%Bs^(j+1)=v%Bs^j+Bs^j*dg v j:=by
 unfold dg;rw[yq,Nat.mod_mul]
theorem qbt(v j:Nat)(h:v<Bs^j):dg v j=0:=by
 unfold dg;rw[xM h];rfl
theorem qd4(v n j:Nat)(h:j<n):dg (v%Bs^n) j=dg v j:=by
 unfold dg;obtain⟨k,rfl⟩:∃k,n=j+(k+1):=⟨n-j-1,by omega⟩;rw[yf,Nat.mod_mul_right_div_self,yq,xk (Bs^k),Nat.mod_mul_right_mod]
theorem q21(n a b:Nat)(ha:a<Bs^n)(hb:b<Bs^n)(h:∀j,j<n->dg a j=dg b j):a=b:=by
 have key:∀m,m<=n->a%Bs^m=b%Bs^m:=by
  intro m
  induction m with
  | zero=>intro _;simp[yr]
  | succ m ih=>intro hm;rw[qkm,qkm,ih Q9R,h m Q9R]
 have:=key n (nlr _);rwa[xC ha,xC hb] at this
def cry(a b i:Nat):Nat:=(a%Bs^i+b%Bs^i) / Bs^i
theorem qdd(a b:Nat):cry a b 0=0:=by simp[cry,yr]
theorem qdp(a b i:Nat):cry a b i<=1:=by
 unfold cry;have h1:=xr a (qbj i);have h2:=xr b (qbj i);have:(a%Bs^i+b%Bs^i) / Bs^i<2:=(xV (qbj i)).2 Q9R;omega
theorem qkn(a b i:Nat):dg a i+dg b i+cry a b i=dg (a+b) i+Bs*cry a b (i+1):=by
 have e1:∀m,a+b=(a / Bs^m+b / Bs^m+cry a b m)*Bs^m+(a%Bs^m+b%Bs^m)%Bs^m:=by
  intro m;have ha:=xz a (Bs^m);have hb:=xz b (Bs^m);have hc:=xz (a%Bs^m+b%Bs^m) (Bs^m);unfold cry;generalize Bs^m=q at *;rw[xy,xy,xk (a / q),xk (b / q),xk _ q];omega
 have e2:∀m,(a+b) / Bs^m=a / Bs^m+b / Bs^m+cry a b m:=by
  intro m;have h:=e1 m;have hr:=xr (a%Bs^m+b%Bs^m) (qbj m);rw[h,xk,yW (qbj m),xM hr,x7]
 have s0:=qcu a i;have s1:=qcu b i;have s2:=qcu (a+b) i;have q0:=e2 i;have q1:=e2 (i+1);rw[q0,q1] at s2;generalize a / Bs^(i+1)=x at *;generalize b / Bs^(i+1)=y at *;generalize cry a b (i+1)=z at *;generalize cry a b i=u at *;simp only[Bs] at *;omega
theorem qjq(a b i:Nat):(dg a i+dg b i+cry a b i)%18446744073709551616=dg (a+b) i:=Q5K
theorem qhl(a b i:Nat):(dg a i+dg b i+cry a b i) / 18446744073709551616=cry a b (i+1):=Q5K
theorem q7t(x d b B:Nat)(hd:d<B)(hb:0<b):(x%b*B+d) / b=(x*B+d) / b%B/\(x%b*B+d)%b=(x*B+d)%b:=by
 have hq:=xz x b;have hr:=xr x hb;have e:x*B+d=b*(x / b*B)+(x%b*B+d):=by
  have h:x*B=b*(x / b)*B+x%b*B:=by rw[<-xy,hq]
  rw[h,xR,ye]
 have hlt:(x%b*B+d) / b<B:=by
  rw[xV hb];have:(x%b+1)*B<=b*B:=yb _ hr;rw[xy] at this;rw[xk B b];omega
 constructor
 .rw[e,yW hb,xk (x / b) B,zw,xC hlt]
 .rw[e,zw]
theorem q22(a b i:Nat)(hb:0<b):(a / Bs^(i+1)%b*18446744073709551616+dg a i) / b=dg (a / b) i/\(a / Bs^(i+1)%b*18446744073709551616+dg a i)%b=a / Bs^i%b:=by
 have h:=q7t (a / Bs^(i+1)) (dg a i) b Bs (je9 a i) hb;rw[<-qcu] at h;refine⟨?_,h.2⟩;have h1:=h.1;unfold dg at *;rw[h1,ya,ya,xk]
theorem qn7(a i k:Nat)(hk:k<64):dg (a / 2^k) i=dg a i / 2^k+dg a (i+1)*2^(64-k)%18446744073709551616:=by
 have e:Bs=2^k*2^(64-k):=by rw[<-yf,show k+(64-k)=64 by omega]
 have s:=qcu a i;have s1:=qcu a (i+1);have hd:=je9 a i;unfold dg at s1 s hd ⊢;rw[ya,xk (2^k),<-ya];generalize a / Bs^i%Bs=d0 at *;generalize a / Bs^(i+1)%Bs=d1 at *;generalize a / Bs^(i+1)=x at *;generalize a / Bs^(i+1+1)=y at *;rw[s,s1];have hp:0<2^k:=yd Q9V;have hp2:0<2^(64-k):=yd Q9V;generalize 2^k=p at *;generalize 2^(64-k)=q at *;show _=d0 / p+d1*q%Bs;have hd':d0<Bs:=hd;clear s s1 hd hk;generalize Bs=B at *;subst e;rw[show(y*(p*q)+d1)*(p*q)+d0=p*((y*(p*q)+d1)*q)+d0 by rw[Nat.mul_left_comm],yW hp];have hq:d0 / p<q:=by rw[xV hp,xk];exact hd'
 have h2:(y*(p*q)+d1)*q+d0 / p=(p*q)*(y*q)+(d1*q+d0 / p):=by
  rw[xy,xk y (p*q),xR (p*q),ye]
 rw[h2,zw];have h3:=xz (d1*q) (p*q);have h4:d1*q%(p*q)=d1%p*q:=by rw[Nat.mul_mod_mul_right]
 have h5:d1%p*q+d0 / p<p*q:=by
  have:=xr d1 hp;have:(d1%p+1)*q<=p*q:=yb _ this;rw[xy] at this;omega
 rw[show d1*q+d0 / p=p*q*(d1*q / (p*q))+(d1*q%(p*q)+d0 / p) by omega,zw,h4,xC h5];omega
open Go.RowKit
def lim(n:Nat)(f:Nat->Nat):Array Value:=((List.range n).map λj=>Value.int .u64 ((f j:Nat):Int)).toArray
@[simp] theorem lim_size(n:Nat)(f:Nat->Nat):(lim n f).size=n:=by simp[lim]
theorem qfh(n:Nat)(f:Nat->Nat)(j:Nat)(h:j<n):(lim n f)[j]?=some (.int .u64 ((f j:Nat):Int)):=by
 simp[lim,h]
theorem q7u(n:Nat)(f:Nat->Nat):(lim n f).all (·.oneCell')=true:=by
 rw[Array.all_eq_true_iff_forall_mem];intro x hx;simp only[lim,List.mem_toArray,xx] at hx;obtain⟨j,_,rfl⟩:=hx;rfl
theorem qlj(n:Nat)(f g:Nat->Nat)(i:Nat)(v:Int)(hi:i<n)(hv:v=((g i:Nat):Int))(h:∀j,j<n->j≠i->f j=g j):(lim n f).setIfInBounds i (.int .u64 v)=lim n g:=by
 apply zI;intro j;rw[zl];by_cases hj:j<n
 .rw[qfh n g j hj];split
  .rename_i e;subst e;rw[if_pos Qa8,hv]
  .rename_i e;rw[qfh n f j hj,h j hj (Ne.symm e)]
 .rw[Array.getElem?_eq_none Qah,Array.getElem?_eq_none Qah,if_neg Q9R]
theorem qdw(n:Nat)(f g:Nat->Nat)(h:∀j,j<n->f j=g j):lim n f=lim n g:=by
 unfold lim;congr 1;apply yo;intro j hj;rw[h j Qa8]
def sz(v:Nat):Array Value:=lim 16 (dg v)
@[simp] theorem sz_size(v:Nat):(sz v).size=16:=lim_size _ _
theorem qmz(v j:Nat)(h:j<16):(sz v)[j]?=some (.int .u64 ((dg v j:Nat):Int)):=qfh _ _ _ h
theorem qfu(v:Nat):(sz v).all (·.oneCell')=true:=q7u _ _
theorem qfi:sz 0 = #[.int .u64 0,.int .u64 0,.int .u64 0,.int .u64 0,.int .u64 0,.int .u64 0,.int .u64 0,.int .u64 0,.int .u64 0,.int .u64 0,.int .u64 0,.int .u64 0,.int .u64 0,.int .u64 0,.int .u64 0,.int .u64 0]:=by
 unfold sz;rw[qdw 16 (dg 0) (λ_=>0) (λj _=>qgo j)];rfl
theorem qhm(v:Nat)(h:v<18446744073709551616)(j:Nat):dg v j=if j=0 then v else 0:=by
 split
 .subst j;simp[dg];exact h
 .apply qbt;exact xl h (Nat.le_self_pow Q9R Bs)
theorem q23(v:Nat)(h:v<18446744073709551616):sz v = #[.int .u64 v,.int .u64 0,.int .u64 0,.int .u64 0,.int .u64 0,.int .u64 0,.int .u64 0,.int .u64 0,.int .u64 0,.int .u64 0,.int .u64 0,.int .u64 0,.int .u64 0,.int .u64 0,.int .u64 0,.int .u64 0]:=by
 unfold sz;rw[qdw 16 (dg v) (λj=>if j=0 then v else 0) (λj _=>qhm v h j)];rfl
def wi(neg over:Bool)(v:Nat):Array Value:=#[.bool neg,.bool over]++sz v
@[simp] theorem wi_size(neg over:Bool)(v:Nat):(wi neg over v).size=18:=by simp[wi]
theorem jey(neg over:Bool)(v:Nat):(wi neg over v)[0]?=some (.bool neg):=by simp[wi,Array.getElem?_append]
theorem qqr(neg over:Bool)(v:Nat):(wi neg over v).all (·.oneCell')=true:=by
 unfold wi;rw[Array.all_append,qfu];simp[Value.oneCell']
def IsRow(w:World)(g:Nat)(t:TypeId)(cs:Array Value):Prop:=w.heap[g]?=some (.cells cs t (0,0))
section
variable{w:World}{g:Nat}{t:TypeId}{cs:Array Value}
theorem IsRow.lt(h:IsRow w g t cs):g<w.heap.size:=(xO.1 h).1
theorem IsRow.cell(h:IsRow w g t cs){j:Nat}{v:Value}(hv:cs[j]?=some v):w.cell? ⟨g,j,none⟩=some v:=by
 rw[cell_of_row w g j cs t _ h];exact hv
theorem IsRow.frozen(h:IsRow w g t cs)(j:Nat):w.frozen? ⟨g,j,none⟩=false:=by
 simp[World.frozen?,show w.heap[g]?=some (.cells cs t (0,0)) from h]
theorem IsRow.alloc(h:IsRow w g t cs)(o:Obj):IsRow (w.alloc o) g t cs:=by
 have:=h.lt;unfold IsRow World.alloc at *;simp only[Array.getElem?_push];rw[if_neg Q9R];exact h
theorem IsRow.drew(h:IsRow w g t cs):IsRow w.drew g t cs:=h
theorem IsRow.drewN(h:IsRow w g t cs)(n:Nat):IsRow (w.drewN n) g t cs:=h
theorem IsRow.new(w:World)(cs:Array Value)(t:TypeId):IsRow (w.alloc (.cells cs t)) w.heap.size t cs:=by
 unfold IsRow World.alloc;simp
theorem IsRow.set(h:IsRow w g t cs)(i:Nat)(v:Value):IsRow (w.setCell ⟨g,i,none⟩ v) g t (cs.setIfInBounds i v):=by
 unfold IsRow;rw[setCell_eq_setRow w g i cs t _ v h];exact setRow_heap w g cs _ t _ h
theorem IsRow.setOther(h:IsRow w g t cs)(a:Addr)(v:Value)(hne:a.block≠g):IsRow (w.setCell a v) g t cs:=by
 unfold IsRow World.setCell at *;simp only[zz];rw[if_neg hne];exact h
theorem IsRow.row(h:IsRow w g t cs)(ds:Array Value):IsRow (w.setRow g ds) g t ds:=setRow_heap w g cs ds t _ h
theorem IsRow.rowOther(h:IsRow w g t cs)(k:Nat)(ds:Array Value)(hne:g≠k):IsRow (w.setRow k ds) g t cs:=(setRow_other w k g ds hne).trans h
theorem IsRow.below{w':World}{B:Nat}(h:IsRow w g t cs)(hb:Below B w w')(hg:g<B):IsRow w' g t cs:=(hb.block g hg).trans h
end
def Digs(w:World)(g o v:Nat):Prop:=∀j,j<16->w.cell? ⟨g,o+j,none⟩=some (.int .u64 ((dg v j:Nat):Int))
theorem Digs.of_sz{g:Nat}{t:TypeId}{v:Nat}(h:IsRow w g t (sz v)):Digs w g 0 v:=λj hj=>by
 rw[xq];exact h.cell (qmz v j hj)
theorem Digs.lt{g o v:Nat}(h:Digs w g o v):g<w.heap.size:=World.block_lt_of_cell? _ _ (h 0 Q9R)
theorem Digs.below{w':World}{g o v B:Nat}(h:Digs w g o v)(hb:Below B w w')(hg:g<B):Digs w' g o v:=λj hj=>(hb.cell (p:=⟨g,o+j,none⟩) hg).trans (h j hj)
variable{P:Program}{ops:Array Oper}{Q:Exit->Act->World->Prop}
theorem qf4{rest:List Oper}{o:Oper}{a:Act}(hg:o.guard=none)(t:TypeId)(i:Nat)(x:Operand)(ho:o.op=.build t #[(i,x)])
  (v:Value) (hv:a.eval x=v) (cs:Array Value) (hb:P.built t [(i,v)]=some cs)
  (h:wpList P ops Q rest (a.put o.dst (.agg cs)) w):wpList P ops Q (o::rest) a w:=by
 subst hv
 have e:((#[(i,x)]:Array (Nat×Operand)).map fun(i,x)=>(i,a.eval x)).toList=[(i,a.eval x)]:=by simp
 refine wpList_build hg t _ ho ?_ ?_
 .rw[e,hb];rfl
 .rw[e,hb];exact h
theorem qiu{rest:List Oper}{o:Oper}{a:Act}(hg:o.guard=none)(t:TypeId)(i j:Nat)(x y:Operand)(ho:o.op=.build t #[(i,x),(j,y)])
  (u v:Value) (hu:a.eval x=u) (hv:a.eval y=v) (cs:Array Value) (hb:P.built t [(i,u),(j,v)]=some cs)
  (h:wpList P ops Q rest (a.put o.dst (.agg cs)) w):wpList P ops Q (o::rest) a w:=by
 subst hu hv
 have e:((#[(i,x),(j,y)]:Array (Nat×Operand)).map fun(i,x)=>(i,a.eval x)).toList=[(i,a.eval x),(j,a.eval y)]:=by simp
 refine wpList_build hg t _ ho ?_ ?_
 .rw[e,hb];rfl
 .rw[e,hb];exact h
theorem Digs.cells{g o v:Nat}(h:Digs w g o v):∀j u,(sz v)[j]?=some u->w.cell? ⟨g,o+j,none⟩=some u:=λj u hu=>by
 have hj:j<16:=by
  rcases xP j 16 with h|h
  .exact h
  .rw[Array.getElem?_eq_none QaT] at hu;cases hu
 rw[qmz v j hj] at hu;rw[h j hj];exact hu
section
variable{P:Program}{ops:Array Oper}{rest:List Oper}{o:Oper}{a:Act}{w:World}{Q:Act->Prop}
theorem qea(hw:Region.wanted o (yielded ops a.tmps)=true)(ty:TypeId)(x:Operand)(ho:o.op=.load ty x)
  (g:Nat) (hx:a.eval x=.pointer (some ⟨g,0,none⟩)) (t:TypeId) (cs:Array Value) (fr:Nat×Nat) (d:TypeDesc) (hg:w.heap[g]?=some (.cells cs t fr))
  (hu:P.underlying ty=some d) (hd:(match d with|.struct _|.array _ _=>true|_=>false)=true) (hi:(P.info? ty).map (·.size)=some cs.size)
  (h:wpStill P ops w Q rest (a.put o.dst (.agg cs))):wpStill P ops w Q (o::rest) a:=by
 unfold wpStill
 rw[if_pos hw]
 unfold Oper.still execOp
 simp only[ho,hx,Instr.loadAt,Instr.sureAddr,Sem.run_bind,Sem.run_pure,Result.andThen_ok,run_loadVar_row w g t ty cs fr d hg hu hd hi]
 exact⟨rfl,h⟩
theorem qfj(hw:Region.wanted o (yielded ops a.tmps)=true)(t:TypeId)(ho:o.op=.build t #[])
  (cs:Array Value) (hb:P.built t []=some cs)
  (h:wpStill P ops w Q rest (a.put o.dst (.agg cs))):wpStill P ops w Q (o::rest) a:=by
 have e:((#[]:Array (Nat×Operand)).map fun(i,x)=>(i,a.eval x)).toList=[]:=by simp
 unfold wpStill
 rw[if_pos hw]
 unfold Oper.still execOp
 simp only[ho,Sem.run_bind,run_build w t _ cs (e▸hb),Result.andThen_ok]
 exact⟨rfl,h⟩
theorem qfk(hw:Region.wanted o (yielded ops a.tmps)=true)(t:TypeId)(i j:Nat)(x y:Operand)(ho:o.op=.build t #[(i,x),(j,y)])
  (u v:Value) (hu:a.eval x=u) (hv:a.eval y=v) (cs:Array Value) (hb:P.built t [(i,u),(j,v)]=some cs)
  (h:wpStill P ops w Q rest (a.put o.dst (.agg cs))):wpStill P ops w Q (o::rest) a:=by
 subst hu hv
 have e:((#[(i,x),(j,y)]:Array (Nat×Operand)).map fun(i,x)=>(i,a.eval x)).toList=[(i,a.eval x),(j,a.eval y)]:=by simp
 unfold wpStill
 rw[if_pos hw]
 unfold Oper.still execOp
 simp only[ho,Sem.run_bind,run_build w t _ cs (e▸hb),Result.andThen_ok]
 exact⟨rfl,h⟩
end
section
variable{P:Program}{ops:Array Oper}{rest:List Oper}{o:Oper}{a:Act}{w:World}
variable{ty:TypeId}
theorem qsh{Q:Act->Prop}{x:Operand}(ho:o.op=.load ty x)(h:wpStill P ops w Q (o::rest) a):wpStill P ops w Q (o::rest) a:=h
variable{ps:Array (Nat×Operand)}
theorem qhn{Q:Act->Prop}(ho:o.op=.build ty ps)(h:wpStill P ops w Q (o::rest) a):wpStill P ops w Q (o::rest) a:=h
variable{Q:Exit->Act->World->Prop}
theorem qn8{x:Operand}(ho:o.op=.load ty x)(h:wpList P ops Q (o::rest) a w):wpList P ops Q (o::rest) a w:=h
theorem qiv(ho:o.op=.build ty ps)(h:wpList P ops Q (o::rest) a w):wpList P ops Q (o::rest) a w:=h
theorem qdx{x y:Operand}(ho:o.op=.store ty x y)(h:wpList P ops Q (o::rest) a w):wpList P ops Q (o::rest) a w:=h
end
section
variable{P:Program}{ops:Array Oper}{o:Oper}{a:Act}{w:World}{K:Act->World->Prop}{Q:Exit->Act->World->Prop}{E:Prop}
theorem qdk(hg:o.guard=none)(ty:TypeId)(x:Operand)(ho:o.op=.load ty x)
  (g:Nat) (hx:a.eval x=.pointer (some ⟨g,0,none⟩)) (t:TypeId) (cs:Array Value) (fr:Nat×Nat) (d:TypeDesc) (hr:w.heap[g]?=some (.cells cs t fr))
  (hu:P.underlying ty=some d) (hd:(match d with|.struct _|.array _ _=>true|_=>false)=true) (hi:(P.info? ty).map (·.size)=some cs.size)
  (hK:K (a.put o.dst (.agg cs)) w):if Region.wanted o (yielded ops a.tmps)=true then Oper.wp P o a w K Q else E:=by
 have hw:Region.wanted o (yielded ops a.tmps)=true:=by simp[Region.wanted,hg]
 rw[if_pos hw]
 exact wp_load_row ty x ho g hx t cs fr d hr hu hd hi hK
theorem qcm(hg:o.guard=none)(ty:TypeId)(x y:Operand)(ho:o.op=.store ty x y)
  (g:Nat) (cells:Array Value) (hx:a.eval x=.pointer (some ⟨g,0,none⟩)) (hy:a.eval y=.agg cells)
  (t:TypeId) (old:Array Value) (hr:w.heap[g]?=some (.cells old t (0,0))) (hi:(P.info? ty).map (·.size)=some cells.size)
  (hold:old.size=cells.size) (h1:cells.all (·.oneCell')=true)
  (hK:K (a.put o.dst undef) (w.setRow g cells)):if Region.wanted o (yielded ops a.tmps)=true then Oper.wp P o a w K Q else E:=by
 have hw:Region.wanted o (yielded ops a.tmps)=true:=by simp[Region.wanted,hg]
 rw[if_pos hw]
 exact wp_store_row ty x y ho g cells hx hy t old hr hi hold h1 hK
end
theorem qem{fn:Func}{p q:Tmp}{t1 t2:TypeId}(h:fn.results = #[.cell p t1,.cell q t2])(tmps:Array Value)(w:World)(A1 A2:Addr)(v1 v2:Value)
  (hp:tmps.getD p undef=.pointer (some A1)) (hq:tmps.getD q undef=.pointer (some A2)) (h1:(loadVar t1 A1).run P w=.ok v1 w) (h2:(loadVar t2 A2).run P w=.ok v2 w) :
  (results fn tmps).run P w=.ok (.tuple #[v1,v2]) w:=by
 have hp':tmps[p]?.getD undef=.pointer (some A1):=by simpa using hp
 have hq':tmps[q]?.getD undef=.pointer (some A2):=by simpa using hq
 simp[results,h,hp',hq',asAddr,h1,h2]
end Go.Proofs.YtfkngpmgcimdbaaGreat


namespace Go.Proofs
open Go.Shelf
def Tryz.lays134_ren:Go.Shelf.Ren:=⟨fun|134=>234|129=>185|n=>n,fun|53=>58|3=>3|4=>4|46=>150|5=>5|9=>9|n=>n,fun|n=>n⟩
theorem Tryz.lays134:Go.Proofs.Lays.n134 prog Tryz.lays134_ren:={
 mixed:=by kernel_rfl
 f129:=func185.trans (congrArg some Q9W)
 f134:=func234.trans (congrArg some Q9W)
 t3:=underlying3
 a3:=Tryz.isAgg3
 z3:=Tryz.sizeOf3
 v3:=Tryz.zeroValue3
 t4:=underlying4
 a4:=Tryz.isAgg4
 z4:=Tryz.sizeOf4
 v4:=Tryz.zeroValue4
 t5:=underlying5
 a5:=Tryz.isAgg5
 z5:=Tryz.sizeOf5
 v5:=Tryz.zeroValue5
 t9:=underlying9
 a9:=Tryz.isAgg9
 z9:=Tryz.sizeOf9
 v9:=Tryz.zeroValue9
 t46:=underlying150
 a46:=Tryz.isAgg150
 z46:=Tryz.sizeOf150
 v46:=Tryz.zeroValue150
 t53:=underlying58
 a53:=Tryz.isAgg58
 z53:=Tryz.sizeOf58
 v53:=Tryz.zeroValue58 }
theorem Tryz.bits_LeadingZeros64(x:Int)(w:World)(h0:0<=x)(h1:x<=18446744073709551615):
  Calls prog 234 #[.int .u64 x] w λe w'=>e=.returned (xc (64-(Lib.bitLen x.toNat:Int)))/\w'=w:=Any.bits_LeadingZeros64 Tryz.lays134 x w h0 h1
def Tryz.lays129_ren:Go.Shelf.Ren:=⟨fun|129=>185|n=>n,fun|53=>58|3=>3|4=>4|46=>150|5=>5|9=>9|n=>n,fun|n=>n⟩
theorem Tryz.lays129:Go.Proofs.Lays.n129 prog Tryz.lays129_ren:={
 mixed:=by kernel_rfl
 f129:=func185.trans (congrArg some Q9W)
 t3:=underlying3
 a3:=Tryz.isAgg3
 z3:=Tryz.sizeOf3
 v3:=Tryz.zeroValue3
 t4:=underlying4
 a4:=Tryz.isAgg4
 z4:=Tryz.sizeOf4
 v4:=Tryz.zeroValue4
 t5:=underlying5
 a5:=Tryz.isAgg5
 z5:=Tryz.sizeOf5
 v5:=Tryz.zeroValue5
 t9:=underlying9
 a9:=Tryz.isAgg9
 z9:=Tryz.sizeOf9
 v9:=Tryz.zeroValue9
 t46:=underlying150
 a46:=Tryz.isAgg150
 z46:=Tryz.sizeOf150
 v46:=Tryz.zeroValue150
 t53:=underlying58
 a53:=Tryz.isAgg58
 z53:=Tryz.sizeOf58
 v53:=Tryz.zeroValue58 }
theorem Tryz.bits_Len64(x:Int)(w:World)(h0:0<=x)(h1:x<=18446744073709551615):
  Calls prog 185 #[.int .u64 x] w λe w'=>e=.returned (xc (Lib.bitLen x.toNat))/\w'=w:=Any.bits_Len64 Tryz.lays129 x w h0 h1
def Tryz.lays264_ren:Go.Shelf.Ren:=⟨fun|264=>158|n=>n,fun|53=>58|46=>150|n=>n,fun|n=>n⟩
theorem Tryz.lays264:Go.Proofs.Lays.n264 prog Tryz.lays264_ren:={
 mixed:=by kernel_rfl
 f264:=func158.trans (congrArg some Q9W)
 t46:=underlying150
 a46:=Tryz.isAgg150
 z46:=Tryz.sizeOf150
 v46:=Tryz.zeroValue150
 t53:=underlying58
 a53:=Tryz.isAgg58
 z53:=Tryz.sizeOf58
 v53:=Tryz.zeroValue58 }
open Go.RowKit Go.Lib in
theorem Tryz.bits_Mul64(x y:Nat)(hx:x<18446744073709551616)(hy:y<18446744073709551616)(w:World):
  Calls prog 158 #[.int .u64 x,.int .u64 y] w λe w'=>e=.returned (.tuple #[.int .u64 ((x*y / 18446744073709551616:Nat):Int),.int .u64 ((x*y%18446744073709551616:Nat):Int)])/\w'=w:=Any.bits_Mul64 Tryz.lays264 x y hx hy w
namespace YtfkngpmgcimdbaaGreat
open Go.RowKit
theorem add64(x y c:Int)(hx:0<=x)(hx':x<18446744073709551616)(hy:0<=y)(hy':y<18446744073709551616)(hc0:0<=c)(hc:c<=1)(w:World):(callFunc 159 #[.int .u64 x,.int .u64 y,.int .u64 c]).run prog w =
  .ok (.value (.tuple #[.int .u64 ((x+y+c)%18446744073709551616),.int .u64 ((x+y+c) / 18446744073709551616)])) w:=by
 obtain⟨x,rfl⟩:=yX hx
 obtain⟨y,rfl⟩:=yX hy
 obtain⟨c,rfl⟩:=yX hc0
 rw[run_callFunc_extern func159 Q9W Q9W Q9W (e:=add64Entry) Q9W,run_add64 x y c Q9R Q9R Q9R Q9R]
 simp only[Result.andThen]
end YtfkngpmgcimdbaaGreat
end Go.Proofs


namespace Go.Proofs.YtfkngpmgcimdbaaGreat
open Go.RowKit
def ndTo(v:Nat):Nat->Nat
 | 0=>0
 | n+1=>if dg v n=0 then ndTo v n else n+1
def nd(v:Nat):Nat:=ndTo v 16
theorem q7v(v n:Nat):ndTo v n<=n:=by
 induction n with
 | zero=>exact nlr _
 | succ n ih=>unfold ndTo;split<;>omega
theorem jht(v:Nat):nd v<=16:=q7v v 16
theorem qiw(g o v:Nat)(w:World)(hd:Digs w g o v):
  Calls prog 157 #[.pointer (some ⟨g,o,none⟩)] w λe w'=>e=.returned (xc (nd v))/\w=w':=by
 have HD:=Lib.hid hd
 clear hd
 have hle:=jht v
 go_enter func157,Tryz.ntmps157
 go_wp2
 go_loopw [3] (λi wr=>wr=w/\∃n:Nat,n<=16/\i=xc n/\ndTo v n=nd v) (λi _=>(intOf i).toNat)
 case atStart=>exact⟨rfl,16,nlr _,rfl,rfl⟩
 case round=>
  obtain⟨rfl,n,hn,rfl,hq⟩:=hrel
  match n,hn,hq with
  | 0,hn,hq=>
   have hq':nd v=0:=hq.symm
   go_wp2_with fail
   go_ret
   exact⟨by rw[hq'];rfl,rfl⟩
  | n+1,hn,hq=>
   have hc:=HD.out n Q9R;have e1:((n+1:Nat):Int)-1=n:=by omega
   by_cases hz:dg v n=0
   .have hq2:ndTo v n=nd v:=by rw[<-hq];rw[ndTo,if_pos hz]
    rw[hz] at hc
    go_wp2_with fail
    go_roundw
    case rel=>exact⟨by first|trivial|rfl,n,by omega,by go_num,hq2⟩
    case measure=>simp[intOf]
   .have hq2:nd v=n+1:=by rw[<-hq];rw[ndTo,if_neg hz]
    go_wp2_with fail
    go_ret
    exact⟨by rw[hq2];rfl,rfl⟩
def lb(n:Nat):Nat:=Lib.bitLen n
theorem jk3(n:Nat)(h:n<18446744073709551616):lb n<=64:=Lib.bitLen_le n 64 (nlr _) h
theorem qyu(n:Nat)(hn:n<18446744073709551616)(w:World):Calls prog 185 #[.int .u64 n] w λe w'=>e=.returned (xc (lb n))/\w=w':=
 (Tryz.bits_Len64 n w Q9R Q9R).mono λe w' h=>⟨h.1,h.2.symm⟩
def bl(v:Nat):Nat:=if nd v=0 then 0 else 64*(nd v-1)+lb (dg v (nd v-1))
theorem quc(g o v:Nat)(w:World)(hd:Digs w g o v):
  Calls prog 186 #[.pointer (some ⟨g,o,none⟩)] w λe w'=>e=.returned (xc (bl v))/\w=w':=by
 have HD:=Lib.hid hd
 clear hd
 have hle:=jht v
 go_enter func186,Tryz.ntmps186
 go_wp2_with fail
 refine(qiw g o v _ HD.out).mono ?_
 rintro e w' ⟨rfl,rfl⟩
 by_cases hz:nd v=0
 .have hb:bl v=0:=by unfold bl;rw[if_pos hz]
  rw[hz]
  go_wp2_with fail
  go_ret
  exact⟨by rw[hb];rfl,rfl⟩
 .obtain⟨n,hn⟩:∃n,nd v=n+1:=⟨nd v-1,by omega⟩;have hb:bl v=64*n+lb (dg v n):=by unfold bl;rw[if_neg hz,hn];rfl
  rw[hn];have e1:((n+1:Nat):Int)-1=n:=by omega
  have hc:=HD.out n Q9R;have hlt:=je9 v n;have hlb:=jk3 _ hlt;have hw:wrap64 (64*(n:Int)+(lb (dg v n):Int))=((64*n+lb (dg v n):Nat):Int):=by unfold wrap64;omega
  go_wp2_with fail
  refine(qyu _ hlt _).mono ?_;rintro e w' ⟨rfl,rfl⟩
  go_wp2_with fail
  go_ret
  exact⟨by rw[hb];exact q7k Q9R,rfl⟩
def cm(a b:Nat):Int:=if a<b then -1 else if b<a then 1 else 0
theorem qyv(g o a h p b:Nat)(w:World)(hd:Digs w g o a)(he:Digs w h p b)(ha:a<Bs^16)(hb:b<Bs^16):
  Calls prog 155 #[.pointer (some ⟨g,o,none⟩),.pointer (some ⟨h,p,none⟩)] w λe w'=>e=.returned (xc (cm a b))/\Below w.heap.size w w'/\w.heap.size=w'.heap.size:=by
 have HD:=Lib.hid hd
 have HE:=Lib.hid he
 clear hd he
 go_enter func155,Tryz.ntmps155
 go_wp2
 go_loopw [5] (λi wr=>(∃n:Nat,n<=16/\i=xc (n-1)/\a / Bs^n=b / Bs^n)/\Below w.heap.size w wr/\w.heap.size=wr.heap.size) (λi _=>(intOf i+1).toNat)
 case atStart=>exact⟨⟨16,by omega,rfl,by rw[xM ha,xM hb]⟩,Below.refl _ _,rfl⟩
 case round=>
  obtain⟨⟨n,hn,rfl,hq⟩,hbel,hsz⟩:=hrel
  match n,hn,hq with
  | 0,hn,hq=>
   simp only[Nat.pow_zero,yY] at hq;have hc:cm a b=0:=by unfold cm;rw[if_neg Q9R,if_neg Q9R]
   go_wp2_with fail
   go_ret
   exact⟨by rw[hc];rfl,hbel,hsz⟩
  | n+1,hn,hq=>
   have e1:((n+1:Nat):Int)-1=n:=by omega
   rw[e1];have c1:wr.cell? ⟨g,o+n,none⟩=some (.int .u64 ((dg a n:Nat):Int)):=(hbel.cell (p:=⟨g,o+n,none⟩) HD.out.lt).trans (HD.out n Q9R);have c2:wr.cell? ⟨h,p+n,none⟩=some (.int .u64 ((dg b n:Nat):Int)):=(hbel.cell (p:=⟨h,p+n,none⟩) HE.out.lt).trans (HE.out n Q9R);have s1:=qcu a n;have s2:=qcu b n;rw[hq] at s1;have hbel1:Below w.heap.size w wr.drew:=hbel.drew;by_cases hlt:dg a n<dg b n
   .have hcm:cm a b = -1:=by
     unfold cm;have key:a<b:=Nat.lt_of_div_lt_div (c:=Bs^n) Q9R;rw[if_pos key]
    clear s1 s2 hq;have hlt':((dg a n:Nat):Int)<((dg b n:Nat):Int):=by omega
    go_wp2_with fail
    go_region
    go_wp2_with fail
    go_ret
    exact Q96
   .have hlt':decide (((dg a n:Nat):Int)<((dg b n:Nat):Int))=false:=xf Q9R;by_cases hgt:dg b n<dg a n
    .have hcm:cm a b=1:=by
      unfold cm;have key:b<a:=Nat.lt_of_div_lt_div (c:=Bs^n) Q9R;rw[if_neg Q9R,if_pos key]
     clear s1 s2 hq;have hgt':((dg b n:Nat):Int)<((dg a n:Nat):Int):=by omega
     go_wp2_with fail
     go_region
     go_wp2_with fail
     go_region
     go_wp2_with fail
     go_ret
     exact Q96
    .have hgt':decide (((dg b n:Nat):Int)<((dg a n:Nat):Int))=false:=xf Q9R;have hqq:a / Bs^n=b / Bs^n:=by omega
     clear s1 s2 hq
     go_wp2_with fail
     go_region
     go_wp2_with fail
     go_region
     go_wp2_with fail
     go_roundw
     case rel=>exact⟨⟨n,by omega,by go_num,hqq⟩,by repeat (first|with_reducible exact hbel|with_reducible apply Below.drew|with_reducible apply qf0),hsz⟩
     case measure=>simp[intOf]
def jgy(a b i:Nat):Nat->Nat:=λj=>if j<i then dg (a+b) j else 0
theorem q7w(g o a h p b:Nat)(w:World)(hd:Digs w g o a)(he:Digs w h p b):
  xa 153 #[.pointer (some ⟨g,o,none⟩),.pointer (some ⟨h,p,none⟩)] w (.tuple #[.agg (sz (a+b)),.int .u64 (cry a b 16)]):=by
 have HD:=Lib.hid hd
 have HE:=Lib.hid he
 clear hd he
 go_enter func153,Tryz.ntmps153
 go_wp2
 go_loopw [7,9] (λc i wr=>∃k:Nat,k<=16/\i=xc k/\c=.int .u64 (cry a b k)/\IsRow wr (w.heap.size+1) 122 (lim 16 (jgy a b k))/\IsRow wr w.heap.size 122 (sz 0)/\Below w.heap.size w wr) (λ_ i _=>16-(intOf i).toNat)
 case atStart=>
  refine⟨0,by omega,rfl,by rw[qdd];rfl,?_,?_,by repeat (first|with_reducible exact Below.refl _ _|with_reducible refine Below.alloc ?_ Qao _)⟩
  .rw[qdw 16 (jgy a b 0) (dg 0) (λj _=>by rw[qgo];unfold jgy;rw[if_neg Q9R])];exact Q2H
  .exact Q5t
 case round=>
  obtain⟨k,hk,rfl,rfl,hrow,hres,hbel⟩:=hrel
  by_cases hlt:k<16
  .have c1:wr.cell? ⟨g,o+k,none⟩=some (.int .u64 ((dg a k:Nat):Int)):=(hbel.cell (p:=⟨g,o+k,none⟩) HD.out.lt).trans (HD.out k hlt);have c2:wr.cell? ⟨h,p+k,none⟩=some (.int .u64 ((dg b k:Nat):Int)):=(hbel.cell (p:=⟨h,p+k,none⟩) HE.out.lt).trans (HE.out k hlt);have c3:=hrow.cell (qfh 16 (jgy a b k) k hlt);have f3:=hrow.frozen k;have hz:=hbel.size;have q1:=je9 a k;have q2:=je9 b k;have q3:=qdp a b k;have ha:∀w:World,(callFunc 159 #[.int .u64 (dg a k:Nat),.int .u64 (dg b k:Nat),.int .u64 (cry a b k:Nat)]).run prog w =
    .ok (.value (.tuple #[.int .u64 (dg (a+b) k:Nat),.int .u64 (cry a b (k+1):Nat)])) w:=λw=>by
    rw[add64 _ _ _ Q9R Q9R Q9R Q9R Q9R Q9R]
    have e1:=qjq a b k
    have e2:=qhl a b k
    rw[show((dg a k:Nat):Int)+(dg b k:Nat)+(cry a b k:Nat)=((dg a k+dg b k+cry a b k:Nat):Int) by omega]
    rw[show(((dg a k+dg b k+cry a b k:Nat):Int)%18446744073709551616)=((dg (a+b) k:Nat):Int) by omega]
    rw[show(((dg a k+dg b k+cry a b k:Nat):Int) / 18446744073709551616)=((cry a b (k+1):Nat):Int) by omega]
   go_wp2_with fail
   go_region
   go_wp2_with fail
   go_roundw
   case rel=>
    refine⟨k+1,by omega,by go_num,rfl,?_,?_,by repeat (first|with_reducible exact hbel|with_reducible apply Below.drew|with_reducible apply qf0|with_reducible refine Below.setCell ?_ Qao _)⟩
    .have:=hrow.drew.set k (.int .u64 (dg (a+b) k:Nat));rw[qlj 16 (jgy a b k) (jgy a b (k+1)) k _ hlt (by unfold jgy;rw[if_pos Q9R]) (λj hj hne=>by unfold jgy;by_cases hjk:j<k<;>simp[hjk,show j<k+1↔j<k by omega])] at this;exact this
    .exact hres.drew.setOther _ _ Qa2
   case measure=>simp[intOf];omega
  .obtain rfl:k=16:=by omega
   rw[qdw 16 (jgy a b 16) (dg (a+b)) (λj hj=>by unfold jgy;rw[if_pos hj])] at hrow;have hrow':IsRow wr (w.heap.size+1) 122 (sz (a+b)):=hrow;clear hrow
   go_wp2_with (first|(refine wpList_load_row rfl 122 _ rfl (w.heap.size+1) rfl _ (sz (a+b)) _ _ hrow' underlying122 rfl Qa3 ?_)|(refine wpList_store_row rfl 122 _ _ rfl w.heap.size (sz (a+b)) rfl rfl _ (sz 0) hres Qa3 Qa2 (qfu _) ?_))
   have hrow2:=hres.row (sz (a+b));have hl:=run_loadVar_row (P:=prog) (wr.setRow w.heap.size (sz (a+b))) w.heap.size _ 122 (sz (a+b)) _ _ hrow2 underlying122 rfl Qa3;refine bodyPost_ret (v:=.tuple #[.agg (sz (a+b)),.int .u64 (cry a b 16:Nat)]) (by simp[results,Tryz.results153,asAddr,hl]) rfl ⟨rfl,below_setRow hbel (nlr _) _⟩
open Go Go.RowKit Sx
def limL(n:Nat)(f:Nat->Nat):List Value:=(List.range n).map λj=>.int .u64 ((f j:Nat):Int)
theorem jbi(n:Nat)(f:Nat->Nat):lim n f=⟨limL n f⟩:=rfl
theorem qcz(n:Nat)(f:Nat->Nat):(limL n f).length=n:=by simp[limL]
variable{n:Nat}
theorem qf5{f:Nat->Nat}{j:Nat}(h:j<n):(limL n f).getD j undef=.int .u64 ((f j:Nat):Int):=by simp[limL,xD,h]
theorem qud(n:Nat)(f:Nat->Nat):(limL n f).all Value.oneCell'=true:=by simp[limL,Value.oneCell']
theorem qcl{f g:Nat->Nat}(h:∀j,j<n->f j=g j):limL n f=limL n g:=yo λj hj=>by rw[h j Qa8]
theorem qaa(n:Nat)(f:Nat->Nat):flatB (.agg ⟨limL n f⟩) n=true:=by
 simp[flatB,qcz,qud]
theorem qaf(n:Nat)(f:Nat->Nat):qap (.agg ⟨limL n f⟩)=true:=by
 simp[qap,limL,qbh]
def wiL(neg over:Bool)(v:Nat):List Value:=.bool neg :: .bool over::limL 16 (dg v)
theorem jmf(neg over:Bool)(v:Nat):wi neg over v=⟨wiL neg over v⟩:=by
 apply xJ.1;simp[wi,wiL,sz,jbi]
theorem qab(neg over:Bool)(v:Nat):flatB (.agg ⟨wiL neg over v⟩) 18=true:=by
 simp[flatB,wiL,qcz,qud,Value.oneCell']
theorem qag(neg over:Bool)(v:Nat):qap (.agg ⟨wiL neg over v⟩)=true:=by
 simp[qap,wiL,limL,qbh]
theorem qn9{F:Nat->Prop}{ρ:Rz}:∀{vs xs:List Value},All2 (Den F ρ) vs xs->xs=vs.map (den ρ)
 | [],[],_=>rfl
 | [],_::_,h=>h.elim
 | _::_,[],h=>h.elim
 | v::vs,x::xs,h=>by rw[xp,qn9 h.2,h.1.self]
theorem qgp{P:Program}{g:FuncId}{vs:List Value}{h:Hp}{v:Value}(rh:List Nat)(hv:qam v=true)(hr:∀xs w,(callFunc g xs).run P w=.ok (.enter g xs) w)
  (hc:∀(ρ:Rz)(w:World),(∀i∈rh,∀c,h[i]?=some (some c)->∀j,j<c.n->w.cell? ⟨(ρ i).1,(ρ i).2+j,none⟩=some (den1 ρ (c.f j)))->Calls P g ⟨vs.map (den ρ)⟩ w λe w'=>e=.returned v/\Below w.heap.size w w'):qae P g vs h v [] rh:=
 λh₂ hrh _ X ρ w xs H hx=>by
  have hxs:xs=vs.map (den ρ):=qn9 hx;subst hxs;refine .inr ⟨hr _ w,(hc ρ w λi hi c hic j hj=>?_).mono ?_⟩
  .obtain⟨x,hx,hd⟩:=H.cell i c ((hrh i hi).trans hic) j hj;rw[hx,hd.self]
  .exact Q52
def Has(h:Hp)(i f v:Nat):Prop:=∃c,h[i]?=some (some c)/\f+16<=c.n/\∀j,j<16->c.f (f+j)=.int .u64 ((dg v j:Nat):Int)
theorem Has.digs{h:Hp}{i f v:Nat}(hh:Has h i f v){ρ:Rz}{w:World}{rh:List Nat}(hi:i∈rh)(hc:∀i∈rh,∀c,h[i]?=some (some c)->∀j,j<c.n->w.cell? ⟨(ρ i).1,(ρ i).2+j,none⟩=some (den1 ρ (c.f j))):Digs w (ρ i).1 ((ρ i).2+f) v:=λj hj=>by
 obtain⟨c,h1,h2,h3⟩:=hh;rw[ye,hc i hi c h1 (f+j) Q9R,h3 j hj];rfl
theorem qcv{h:Hp}{i v:Nat}{o neg over:Bool}(hi:h[i]?=some (some ⟨o,18,[(0,18,.agg ⟨wiL neg over v⟩)]⟩)):Has h i 2 v:=
 ⟨_,hi,nlr _,λj hj=>by
  refine Q3R ?_;simp only[cellIn,wiL,Nat.sub_zero];rw[show 2+j=j+1+1 by omega];simp only[List.getD_cons_succ];exact qf5 hj⟩
theorem q5y(i f v:Nat)(h:Hp)(hh:Has h i f v):qae prog 157 [.pointer (some ⟨i,f,some 0⟩)] h (xc (nd v)) [] [i]:=
 qgp [i] rfl (call157) λρ w hc=>(qiw (ρ i).1 ((ρ i).2+f) v w (hh.digs Qa2 hc)).mono Qal
theorem qaw{o:Bool}{p q:Nat}{f:Nat->Nat}(hp:p<n)(hq:q=p):Reads ⟨o,n,[(0,n,.agg ⟨limL n f⟩)]⟩ q false 1 (.int .u64 ((f p:Nat):Int)):=by
 subst hq;refine⟨hp,rfl,?_⟩;refine Q3R ?_;exact qf5 hp
theorem qoa{o neg over:Bool}{v p q:Nat}(hp:p<16)(hq:q=2+p):Reads ⟨o,18,[(0,18,.agg ⟨wiL neg over v⟩)]⟩ q false 1 (.int .u64 ((dg v p:Nat):Int)):=by
 subst hq;refine⟨by show 2+p<18;omega,rfl,?_⟩;show qa9 _ _=_;rw[qan,if_pos Q9R];simp only[cellIn,wiL,Nat.sub_zero];rw[show 2+p=p+1+1 by omega];simp only[List.getD_cons_succ];exact qf5 hp
theorem qce{p q:Nat}{f g:Nat->Nat}{x:Int}(hp:p<n)(hq:q=p)(hx:x=((g p:Nat):Int))(hg:∀k,k<n->k≠p->g k=f k):Writes ⟨true,n,[(0,n,.agg ⟨limL n f⟩)]⟩ q 1 (.int .u64 x) ⟨true,n,[(0,n,.agg ⟨limL n g⟩)]⟩:=by
 subst hq;refine⟨rfl,hp,rfl,λk hk=>?_⟩;have hk:k<n:=hk;have e:∀f:Nat->Nat,(⟨true,n,[(0,n,.agg ⟨limL n f⟩)]⟩:Chunk).f k=.int .u64 ((f k:Nat):Int):=λf=>by
  refine Q3R ?_;exact qf5 hk
 rw[e,e];by_cases h:k=q
 .subst h;rw[if_pos Q9R,hx];rfl
 .rw[if_neg Q9R,hg k hk h]
theorem qgb(x y:Nat)(h:Hp)(hx:x<18446744073709551616)(hy:y<18446744073709551616):qae prog 158 [.int .u64 x,.int .u64 y] h (.tuple #[.int .u64 ((x*y / 18446744073709551616:Nat):Int),.int .u64 ((x*y%18446744073709551616:Nat):Int)]) [] []:=
 qai rfl rfl (call158 _) λw=>(Tryz.bits_Mul64 x y hx hy w).mono Qal
theorem qyw(x y c:Int)(h:Hp)(hx:0<=x)(hx':x<18446744073709551616)(hy:0<=y)(hy':y<18446744073709551616)(hc0:0<=c)(hc:c<=1):qae prog 159 [.int .u64 x,.int .u64 y,.int .u64 c] h (.tuple #[.int .u64 ((x+y+c)%18446744073709551616),.int .u64 ((x+y+c) / 18446744073709551616)]) [] []:=
 qtx rfl rfl λw=>YtfkngpmgcimdbaaGreat.add64 x y c hx hx' hy hy' hc0 hc w
open Go.RowKit
theorem Tryz.info_u64:(prog.info? 58).isSome=true:=by kernel_rfl
theorem Tryz.cells_u64:prog.cellsOf 58=1:=by kernel_rfl
theorem qj2(w:World){xs:Array Value}{off:Nat}{v:Value}(hx:xs[off]?=some v):(part 58 xs off).run prog w=.ok v w:=by
 have ha:(isAgg 58).run prog w=.ok false w:=by
  unfold isAgg;rw[Sem.run_bind,run_underlying underlying58 w];rfl
 simp[part,Sem.run_bind,ha,hx]
theorem qlk(d n:Nat)(f g:Nat->Nat)(w:World):∀is:List Nat,(∀i∈is,i<n)->(Op.eqItems (d+1) 58 1 (lim n f) (lim n g) is).run prog w=.ok (is.all λi=>f i==g i) w
 | [],_=>by simp[Op.eqItems]
 | i::is,h=>by
  have ih:=qlk d n f g w is (λj hj=>h j (by simp[hj]));have hi:=h i Qa2;have e1:=qj2 w (qfh n f i hi);have e2:=qj2 w (qfh n g i hi);have e3:=run_equalIn_int (P:=prog) w d 58 .u64 .u64 (f i) (g i) underlying58;simp only[Op.eqItems,Sem.run_bind,x9,e1,e2,e3,Result.andThen_ok];by_cases hfg:f i=g i
  .simp[hfg,ih]
  .have:((f i:Nat):Int)≠(g i:Nat):=by omega
   simp[hfg,this]
theorem qko(u v:Nat)(hu:u<Bs^16)(hv:v<Bs^16)(w:World):(Op.equalIn 10000 122 (.agg (sz u)) (.agg (sz v))).run prog w=.ok (decide (u=v)) w:=by
 obtain⟨i,hi⟩:=Option.isSome_iff_exists.1 Tryz.info_u64;rw[run_equalIn_array (P:=prog) w 9999 (sz u) (sz v) underlying122 hi,Tryz.cells_u64];unfold sz;rw[qlk 9998 16 _ _ w (List.range 16) (λi hi=>by simpa using hi)];congr 1;by_cases h:u=v
 .subst h;simp
 .simp only[h,decide_false];rw[<-Bool.not_eq_true,xX];intro hall;exact h (q21 16 u v hu hv λj hj=>by simpa using hall j Qa8)
theorem qv7(u:Nat)(hu:u<Bs^16)(w:World):(Op.equalIn 10000 122 (.agg (sz u)) (.agg #[.int .u64 0,.int .u64 0,.int .u64 0,.int .u64 0,.int .u64 0,.int .u64 0,.int .u64 0,.int .u64 0,.int .u64 0,.int .u64 0,.int .u64 0,.int .u64 0,.int .u64 0,.int .u64 0,.int .u64 0,.int .u64 0])).run prog w=.ok (decide (u=0)) w:=by
 rw[<-qfi];exact qko u 0 hu (qbj 16) w
theorem qyx(f:Nat->Nat):lim 16 f = #[.int .u64 (f 0:Nat),.int .u64 (f 1:Nat),.int .u64 (f 2:Nat),.int .u64 (f 3:Nat),.int .u64 (f 4:Nat),.int .u64 (f 5:Nat),.int .u64 (f 6:Nat),.int .u64 (f 7:Nat),.int .u64 (f 8:Nat),.int .u64 (f 9:Nat),.int .u64 (f 10:Nat),.int .u64 (f 11:Nat),.int .u64 (f 12:Nat),.int .u64 (f 13:Nat),.int .u64 (f 14:Nat),.int .u64 (f 15:Nat)]:=by
 unfold lim;rw[show List.range 16=[0,1,2,3,4,5,6,7,8,9,10,11,12,13,14,15] from rfl];rfl
theorem jbj(v:Nat):sz v = #[.int .u64 (dg v 0:Nat),.int .u64 (dg v 1:Nat),.int .u64 (dg v 2:Nat),.int .u64 (dg v 3:Nat),.int .u64 (dg v 4:Nat),.int .u64 (dg v 5:Nat),.int .u64 (dg v 6:Nat),.int .u64 (dg v 7:Nat),.int .u64 (dg v 8:Nat),.int .u64 (dg v 9:Nat),.int .u64 (dg v 10:Nat),.int .u64 (dg v 11:Nat),.int .u64 (dg v 12:Nat),.int .u64 (dg v 13:Nat),.int .u64 (dg v 14:Nat),.int .u64 (dg v 15:Nat)]:=qyx (dg v)
theorem jn5(neg over:Bool)(f:Nat->Nat): #[Value.bool neg,Value.bool over]++lim 16 f = #[.bool neg,.bool over,.int .u64 (f 0:Nat),.int .u64 (f 1:Nat),.int .u64 (f 2:Nat),.int .u64 (f 3:Nat),.int .u64 (f 4:Nat),.int .u64 (f 5:Nat),.int .u64 (f 6:Nat),.int .u64 (f 7:Nat),.int .u64 (f 8:Nat),.int .u64 (f 9:Nat),.int .u64 (f 10:Nat),.int .u64 (f 11:Nat),.int .u64 (f 12:Nat),.int .u64 (f 13:Nat),.int .u64 (f 14:Nat),.int .u64 (f 15:Nat)]:=by
 rw[qyx];simp
theorem jbk(neg over:Bool)(v:Nat):wi neg over v = #[.bool neg,.bool over,.int .u64 (dg v 0:Nat),.int .u64 (dg v 1:Nat),.int .u64 (dg v 2:Nat),.int .u64 (dg v 3:Nat),.int .u64 (dg v 4:Nat),.int .u64 (dg v 5:Nat),.int .u64 (dg v 6:Nat),.int .u64 (dg v 7:Nat),.int .u64 (dg v 8:Nat),.int .u64 (dg v 9:Nat),.int .u64 (dg v 10:Nat),.int .u64 (dg v 11:Nat),.int .u64 (dg v 12:Nat),.int .u64 (dg v 13:Nat),.int .u64 (dg v 14:Nat),.int .u64 (dg v 15:Nat)]:=jn5 neg over (dg v)
theorem qsi(neg over:Bool):wi neg over 0 = #[.bool neg,.bool over,.int .u64 0,.int .u64 0,.int .u64 0,.int .u64 0,.int .u64 0,.int .u64 0,.int .u64 0,.int .u64 0,.int .u64 0,.int .u64 0,.int .u64 0,.int .u64 0,.int .u64 0,.int .u64 0,.int .u64 0,.int .u64 0]:=by
 unfold wi;rw[qfi];rfl
def qh5:Nat:=1023
def Top:Nat:=2^qh5
theorem q5z(n:Nat):Bs^n=2^(64*n):=by
 rw[Nat.pow_mul]
theorem jbl(a b:Nat)(h:a<b):2^a<2^b:=yV Q9V h
theorem jbm(n:Nat)(h:qh5<64*n):Top<Bs^n:=by
 rw[q5z];exact jbl _ _ h
theorem qbr:Top<Bs^16:=jbm 16 Q9V
theorem qgq(v:Nat):∀n,v<Bs^n->v<Bs^ndTo v n
 | 0,h=>h
 | n+1,h=>by
  rw[ndTo];split
  .rename_i hz;refine qgq v n ?_;have s:=qcu v n;rw[hz,xM h] at s;exact(Nat.div_eq_zero_iff_lt (qbj n)).1 Q9R
  .exact h
theorem qob(v:Nat):∀n,ndTo v n=0\/dg v (ndTo v n-1)≠0
 | 0=>.inl rfl
 | n+1=>by
  rw[ndTo];split
  .exact qob v n
  .rename_i h;exact .inr h
theorem qdy:∀(f x:Nat),x<2^f->x<2^Lib.bitLenAux f x/\(x≠0->2^(Lib.bitLenAux f x-1)<=x/\0<Lib.bitLenAux f x)
 | 0,x,h=>by
  have:x=0:=by simpa using h
  subst this;exact⟨by simp[Lib.bitLenAux],λh=>absurd rfl h⟩
 | f+1,x,h=>by
  rw[Lib.bitLenAux];split
  .rename_i hz;subst hz;exact⟨by decide,λh=>absurd rfl h⟩
  .rename_i hz;obtain⟨h1,h2⟩:=qdy f (x / 2) (by rw[yq] at h;omega);refine⟨by rw[Nat.add_comm,yq];omega,λ_=>⟨?_,by omega⟩⟩;rw[show 1+Lib.bitLenAux f (x / 2)-1=Lib.bitLenAux f (x / 2) by omega];by_cases hh:x / 2=0
   .have:Lib.bitLenAux f (x / 2)=0:=by rw[hh];cases f<;>simp[Lib.bitLenAux]
    rw[this];simp;omega
   .obtain⟨h3,h4⟩:=h2 hh;obtain⟨m,hm⟩:∃m,Lib.bitLenAux f (x / 2)=m+1:=⟨_,(Nat.succ_pred_eq_of_pos h4).symm⟩;rw[hm] at h3 ⊢;rw[yq];simp at h3;omega
theorem qsj(v:Nat)(hv:v<Bs^16):v<2^bl v/\(v≠0->2^(bl v-1)<=v/\0<bl v):=by
 have hlt:=qgq v 16 hv;have htop:=qob v 16;have e0:ndTo v 16=nd v:=rfl;rw[e0] at hlt htop;rcases htop with h0|h0
 .have hb:bl v=0:=by unfold bl;rw[if_pos h0]
  rw[h0] at hlt;have:v=0:=by simpa using hlt
  subst this;exact⟨by rw[hb];decide,λh=>absurd rfl h⟩
 .by_cases hz:nd v=0
  .rw[hz] at hlt;have:v=0:=by simpa using hlt
   subst this;exact absurd (qgo _) h0
  obtain⟨n,hn⟩:∃n,nd v=n+1:=⟨nd v-1,by omega⟩;have hb:bl v=64*n+lb (dg v n):=by unfold bl;rw[if_neg hz,hn];rfl
  rw[hn] at hlt h0;have h0':dg v n≠0:=h0;have hd:v / Bs^n=dg v n:=by
   have s:=qcu v n;rw[xM hlt] at s;omega
  obtain⟨b1,b2⟩:=qdy 64 (dg v n) (je9 v n);obtain⟨b3,b4⟩:=b2 h0';have e1:Lib.bitLenAux 64 (dg v n)=lb (dg v n):=rfl;rw[e1] at b1 b3 b4;have eB:=q5z n;rw[hb];refine⟨?_,λ_=>⟨?_,by omega⟩⟩
  .rw[yf,<-eB,xk,<-xV (qbj n),hd];exact b1
  .rw[show 64*n+lb (dg v n)-1=64*n+(lb (dg v n)-1) by omega,yf,<-eB,xk,<-zj (qbj n),hd];exact b3
theorem qoc(v k:Nat)(hv:v<Bs^16)(h:v<2^k):bl v<=k:=by
 obtain⟨h1,h2⟩:=qsj v hv;by_cases hz:v=0
 .subst hz;have:bl 0=0:=by decide
  omega
 .obtain⟨h3,h4⟩:=h2 hz;have:bl v-1<k:=(Nat.pow_lt_pow_iff_right Q9V).1 (xQ h3 h);omega
theorem q24(x:Int):prog.built 122 [(0,.int .u64 x)]=some #[.int .u64 x,.int .u64 0,.int .u64 0,.int .u64 0,.int .u64 0,.int .u64 0,.int .u64 0,.int .u64 0,.int .u64 0,.int .u64 0,.int .u64 0,.int .u64 0,.int .u64 0,.int .u64 0,.int .u64 0,.int .u64 0]:=by kernel_rfl
theorem qod(v:Nat)(h:v<18446744073709551616):prog.built 122 [(0,.int .u64 v)]=some (sz v):=by
 rw[q23 v h];exact q24 _
theorem qsk:prog.built 122 []=some (sz 0):=by
 rw[qfi];kernel_rfl
theorem qix(neg:Bool)(v:Nat):prog.built 124 [(0,.bool neg),(2,.agg (sz v))]=some (wi neg false v):=by
 rw[jbj,jbk];kernel_rfl
def zi(z:Int):Array Value:=wi (decide (z<0)) false z.natAbs
@[simp] theorem zi_size(z:Int):(zi z).size=18:=wi_size _ _ _
theorem q7x(v:Nat)(h:0<v/\v<=9223372036854775808)(w:World):xa 98 #[xc (-(v:Int))] w (.agg (wi true false v)):=by
 have hB:Below w.heap.size w w:=Below.refl _ _;have hr:=IsRow.new w (wi false false 0) 124;rw[qsi] at hr;obtain⟨h0,h1⟩:=h;have hwr:IntKind.u64.wrap (-IntKind.u64.wrap (-(v:Int)))=v:=by
  show((-((-(v:Int))%18446744073709551616))%18446744073709551616:Int)=v;omega
 have hb1:prog.built 122 [(0,.int .u64 (IntKind.u64.wrap (-IntKind.u64.wrap (-(v:Int)))))]=some (sz v):=by rw[hwr];exact qod v Q9R
 clear hwr;have hn : -(v:Int)<0:=by omega
 have hb2:=qix true v
 go_enter func98,Tryz.ntmps98
 go_wp2_with (first|(refine qiv (ty:=122) rfl ?_;refine qf4 ?_ 122 0 _ rfl (.int .u64 (IntKind.u64.wrap (-IntKind.u64.wrap (-(v:Int))))) rfl (sz v) (hb1) ?_;(focus rfl))|(refine qiv (ty:=124) rfl ?_;refine qiu ?_ 124 0 2 _ _ rfl (.bool true) (.agg (sz v)) rfl rfl (wi true false v) (hb2) ?_;(focus rfl))|(refine qdx (ty:=124) rfl ?_;refine wpList_store_row ?_ 124 _ _ rfl (w.heap.size) (wi true false v) rfl rfl _ (_) (hr) Qap Qa2 (qqr _ _ _) ?_;(focus rfl))|fail)
 exact bodyPost_ret Q99 rfl ⟨rfl,below_setRow (hB.alloc (nlr _) _) (nlr _) _⟩
theorem q7y(v:Nat)(h:v<9223372036854775808)(w:World):xa 98 #[xc ((v:Int))] w (.agg (wi false false v)):=by
 have hB:Below w.heap.size w w:=Below.refl _ _;have hr:=IsRow.new w (wi false false 0) 124;rw[qsi] at hr;have hwr:IntKind.u64.wrap (v:Int)=v:=by
  show((v:Int)%18446744073709551616:Int)=v;omega
 have hb1:prog.built 122 [(0,.int .u64 (v:Int))]=some (sz v):=qod v Q9R;have hn:¬ (v:Int)<0:=by omega
 have hb2:=qix false v
 go_enter func98,Tryz.ntmps98
 go_wp2_with (first|(refine qiv (ty:=122) rfl ?_;refine qf4 ?_ 122 0 _ rfl (.int .u64 (v:Int)) rfl (sz v) (hb1) ?_;(focus rfl))|(refine qiv (ty:=124) rfl ?_;refine qiu ?_ 124 0 2 _ _ rfl (.bool false) (.agg (sz v)) rfl rfl (wi false false v) (hb2) ?_;(focus rfl))|(refine qdx (ty:=124) rfl ?_;refine wpList_store_row ?_ 124 _ _ rfl (w.heap.size) (wi false false v) rfl rfl _ (_) (hr) Qap Qa2 (qqr _ _ _) ?_;(focus rfl))|fail)
 exact bodyPost_ret Q99 rfl ⟨rfl,below_setRow (hB.alloc (nlr _) _) (nlr _) _⟩
theorem q7z(n:Int)(h0 : -9223372036854775808<=n)(h1:n<9223372036854775808)(w:World):xa 98 #[xc n] w (.agg (zi n)):=by
 by_cases hn:n<0
 .have:=q7x n.natAbs Q9R w;rw[show -(n.natAbs:Int)=n by omega] at this;unfold zi;rw[xg hn];exact this
 .have:=q7y n.natAbs Q9R w;rw[show(n.natAbs:Int)=n by omega] at this;unfold zi;rw[xf hn];exact this
theorem q25(neg:Bool)(v:Nat)(hv:v<Top)(w:World):xa 154 #[.bool neg,.agg (sz v)] w (.agg (wi (neg&&decide (v≠0)) false v)):=by
 have hv16:v<Bs^16:=xE hv qbr;have hbl:bl v<=1023:=qoc v qh5 hv16 hv;have hB:Below w.heap.size w w:=Below.refl _ _;have hr:=(IsRow.new w (sz v) 122).alloc (.cells (wi false false 0) 124);have hr2:=IsRow.new (w.alloc (.cells (sz v) 122)) (wi false false 0) 124;have hdg:=Digs.of_sz hr;rw[qsi] at hdg hr hr2;have HD:=Lib.hid hdg;clear hdg;have hB2:Below w.heap.size w ((w.alloc (.cells (sz v) 122)).alloc (.cells #[.bool false,.bool false,.int .u64 0,.int .u64 0,.int .u64 0,.int .u64 0,.int .u64 0,.int .u64 0,.int .u64 0,.int .u64 0,.int .u64 0,.int .u64 0,.int .u64 0,.int .u64 0,.int .u64 0,.int .u64 0,.int .u64 0,.int .u64 0] 124)):=by
  refine Below.alloc (Below.alloc hB ?_ _) ?_ _
  .exact nlr _
  .simp
 go_enter func154,Tryz.ntmps154
 go_wp2_with fail
 refine(quc w.heap.size 0 v _ HD.out).mono ?_;rintro e w' ⟨rfl,rfl⟩;clear HD;cases neg
 .go_wp2_with fail
  rw[show(w.alloc (.cells (sz v) 122)).heap.size=w.heap.size+1 by simp] at hr2;generalize hW:((w.alloc (.cells (sz v) 122)).alloc (.cells #[.bool false,.bool false,.int .u64 0,.int .u64 0,.int .u64 0,.int .u64 0,.int .u64 0,.int .u64 0,.int .u64 0,.int .u64 0,.int .u64 0,.int .u64 0,.int .u64 0,.int .u64 0,.int .u64 0,.int .u64 0,.int .u64 0,.int .u64 0] 124))=W at hr hr2 hB2 ⊢;clear hW;have heq:=qko v 0 hv16 (qbj 16) W.drew;clear heq;refine wp_region_still_tail 8 Q9W Q9W ?_;simp only[List.take_succ_cons,List.take_zero,List.drop_succ_cons,List.drop_zero]
  repeat (first|(refine qsh (ty:=122) rfl ?_;refine qea ?_ 122 _ rfl (w.heap.size) rfl _ (sz v) _ _ (hr.drew) underlying122 rfl Qa3 ?_;(focus (first|rfl|(go_simp;done))))|(refine qhn (ty:=122) rfl ?_;refine qfj ?_ 122 rfl (sz 0) (qsk) ?_;(focus (first|rfl|(go_simp;done))))|(refine qhn (ty:=124) rfl ?_;refine qfk ?_ 124 0 2 _ _ rfl (.bool false) (.agg (sz v)) rfl rfl (wi false false v) (qix _ _) ?_;(focus (first|rfl|(go_simp;done))))|still_step)
  refine wpStill_nil ?_;change wpList _ _ _ _ _ W.drew
  go_wp2_with (refine qdx (ty:=124) rfl ?_;refine wpList_store_row ?_ 124 _ _ rfl (w.heap.size+1) (wi false false v) rfl rfl _ (_) (hr2.drew) Qap Qa2 (qqr _ _ _) ?_;(focus rfl))
  exact bodyPost_ret Q8A rfl ⟨by rw[show(false&&decide (v≠0))=false by simp],below_setRow hB2.drew Q9R _⟩
 .by_cases hz:v=0
  .have HZ:=Lib.hid hz;clear hz
   go_wp2_with fail
   rw[show(w.alloc (.cells (sz v) 122)).heap.size=w.heap.size+1 by simp] at hr2;generalize hW:((w.alloc (.cells (sz v) 122)).alloc (.cells #[.bool false,.bool false,.int .u64 0,.int .u64 0,.int .u64 0,.int .u64 0,.int .u64 0,.int .u64 0,.int .u64 0,.int .u64 0,.int .u64 0,.int .u64 0,.int .u64 0,.int .u64 0,.int .u64 0,.int .u64 0,.int .u64 0,.int .u64 0] 124))=W at hr hr2 hB2 ⊢;clear hW;have heq:=qko v 0 hv16 (qbj 16) W.drew;rw[xg HZ.out] at heq;refine wp_region_still_tail 8 Q9W Q9W ?_;simp only[List.take_succ_cons,List.take_zero,List.drop_succ_cons,List.drop_zero]
   repeat (first|(refine qsh (ty:=122) rfl ?_;refine qea ?_ 122 _ rfl (w.heap.size) rfl _ (sz v) _ _ (hr.drew) underlying122 rfl Qa3 ?_;(focus (first|rfl|(go_simp;done))))|(refine qhn (ty:=122) rfl ?_;refine qfj ?_ 122 rfl (sz 0) (qsk) ?_;(focus (first|rfl|(go_simp;done))))|(refine qhn (ty:=124) rfl ?_;refine qfk ?_ 124 0 2 _ _ rfl (.bool false) (.agg (sz v)) rfl rfl (wi false false v) (qix _ _) ?_;(focus (first|rfl|(go_simp;done))))|still_step)
   refine wpStill_nil ?_;change wpList _ _ _ _ _ W.drew
   go_wp2_with (refine qdx (ty:=124) rfl ?_;refine wpList_store_row ?_ 124 _ _ rfl (w.heap.size+1) (wi false false v) rfl rfl _ (_) (hr2.drew) Qap Qa2 (qqr _ _ _) ?_;(focus rfl))
   exact bodyPost_ret Q8A rfl ⟨by rw[show(true&&decide (v≠0))=false by simp[HZ.out]],below_setRow hB2.drew Q9R _⟩
  .have HZ:=Lib.hid hz;clear hz
   go_wp2_with fail
   rw[show(w.alloc (.cells (sz v) 122)).heap.size=w.heap.size+1 by simp] at hr2;generalize hW:((w.alloc (.cells (sz v) 122)).alloc (.cells #[.bool false,.bool false,.int .u64 0,.int .u64 0,.int .u64 0,.int .u64 0,.int .u64 0,.int .u64 0,.int .u64 0,.int .u64 0,.int .u64 0,.int .u64 0,.int .u64 0,.int .u64 0,.int .u64 0,.int .u64 0,.int .u64 0,.int .u64 0] 124))=W at hr hr2 hB2 ⊢;clear hW;have heq:=qko v 0 hv16 (qbj 16) W.drew;rw[xf HZ.out] at heq;refine wp_region_still_tail 8 Q9W Q9W ?_;simp only[List.take_succ_cons,List.take_zero,List.drop_succ_cons,List.drop_zero]
   repeat (first|(refine qsh (ty:=122) rfl ?_;refine qea ?_ 122 _ rfl (w.heap.size) rfl _ (sz v) _ _ (hr.drew) underlying122 rfl Qa3 ?_;(focus (first|rfl|(go_simp;done))))|(refine qhn (ty:=122) rfl ?_;refine qfj ?_ 122 rfl (sz 0) (qsk) ?_;(focus (first|rfl|(go_simp;done))))|(refine qhn (ty:=124) rfl ?_;refine qfk ?_ 124 0 2 _ _ rfl (.bool true) (.agg (sz v)) rfl rfl (wi true false v) (qix _ _) ?_;(focus (first|rfl|(go_simp;done))))|still_step)
   refine wpStill_nil ?_;change wpList _ _ _ _ _ W.drew
   go_wp2_with (refine qdx (ty:=124) rfl ?_;refine wpList_store_row ?_ 124 _ _ rfl (w.heap.size+1) (wi true false v) rfl rfl _ (_) (hr2.drew) Qap Qa2 (qqr _ _ _) ?_;(focus rfl))
   exact bodyPost_ret Q8A rfl ⟨by rw[show(true&&decide (v≠0))=true by simp[HZ.out]],below_setRow hB2.drew Q9R _⟩
theorem q70(v p q M:Nat)(hp:0<p)(hq:0<q)(hM:0<M):v*p / (M*(p*q))=v / (M*(p*q))*p+v / M%(p*q) / q:=by
 have h1:v / (M*(p*q))=v / M / (p*q):=by rw[ya]
 have h2:=xz v M;have h3:=xz (v / M) (p*q);have h4:v*p / (M*(p*q))=v / M / q:=by
  rw[show M*(p*q)=M*q*p by rw[xk p q,xR],Nat.mul_div_mul_right _ _ hp,ya]
 rw[h4,h1];generalize v / M=x at *;have h5:x=x / (p*q)*(p*q)+x%(p*q):=by rw[xk];exact h3.symm
 conv=>lhs;rw[h5]
 rw[show x / (p*q)*(p*q)=q*(x / (p*q)*p) by rw[<-xR,xk q,xR]];rw[yW hq]
theorem qiy(k:Nat)(hk:k<64):Bs=2^k*2^(64-k):=by rw[<-yf,show k+(64-k)=64 by omega]
theorem que(v k:Nat):dg (v*2^k) 0=dg v 0*2^k%18446744073709551616:=by
 unfold dg;rw[Nat.pow_zero,yY,yY];show _=v%Bs*2^k%Bs;rw[Nat.mod_mul_mod]
theorem qoe(v k n:Nat)(hk:k<64)(hn:0<n):dg (v*2^k) n=dg v n*2^k%18446744073709551616+dg v (n-1) / 2^(64-k):=by
 obtain⟨m,rfl⟩:∃m,n=m+1:=⟨n-1,by omega⟩;have hM:=qbj m;have hp:0<2^k:=yd Q9V;have hq:0<2^(64-k):=yd Q9V;have g:=q70 v (2^k) (2^(64-k)) (Bs^m) hp hq hM;have e:=qiy k hk;have hd0:=xr (v / Bs^m) qbk;rw[show m+1-1=m from rfl];unfold dg;show v*2^k / Bs^(m+1)%Bs=v / Bs^(m+1)%Bs*2^k%Bs+v / Bs^m%Bs / 2^(64-k);rw[yq];generalize 2^k=p at *;generalize 2^(64-k)=q at *;rw[<-e] at g;rw[g];generalize v / (Bs^m*Bs)=x at *;generalize v / Bs^m%Bs=d at *;generalize Bs=B at *;subst e;have h1:d / q<p:=by rw[xV hq];exact hd0
 have h2:x%(p*q)*p%(p*q)=x%q*p:=by
  rw[Nat.mod_mul_mod,xk x p,Nat.mul_mod_mul_left,xk]
 have h3:=xz x q;rw[h2];have h4:x*p+d / q=p*q*(x / q)+(x%q*p+d / q):=by
  have:x*p=p*q*(x / q)+x%q*p:=by
   conv=>lhs;rw[<-h3]
   rw[xy,xk (q*(x / q)) p,<-xR]
  omega
 rw[h4,zw,xC];have h5:=xr x hq;have h6:(x%q+1)*p<=q*p:=yb _ h5;rw[xy] at h6;rw[xk p q];omega
theorem qgr(x k:Nat):IntKind.u64.wrap ((x:Int)*2^k)=((x*2^k%18446744073709551616:Nat):Int):=by
 rw[xn];generalize h:x*2^k=y;have:(x:Int)*2^k=(y:Nat):=by rw[<-h];exact_mod_cast rfl
 rw[this];omega
theorem qc4(x k:Nat):(x:Int) / 2^k=((x / 2^k:Nat):Int):=by exact_mod_cast rfl
theorem qqs(a b:Nat)(ha:a<18446744073709551616)(hb:b<18446744073709551616):bits .or .u64 (a:Int) (b:Int)=((a ||| b:Nat):Int):=
 (bits_nat .u64 64 Q9V (λn h0 h1=>by rw[xn];omega) a b ha hb).2
theorem jk4(x y k:Nat)(hk0:0<k)(hk:k<64)(hy:y<18446744073709551616):
  bits .or .u64 (IntKind.u64.wrap ((x:Int)*2^k)) ((y:Int) / 2^(64-k))=((x*2^k%18446744073709551616+y / 2^(64-k):Nat):Int):=by
 have h1:=xr (x*2^k) qbk
 have h2:y / 2^(64-k)<2^k:=by
  rw[xV (yd Q9V),<-qiy k hk];exact hy
 have h3:2^k<=2^63:=yc Q9V Q9R
 rw[qgr,qc4,qqs _ _ h1 Q9R]
 have h4:x*2^k%18446744073709551616=2^k*(x%2^(64-k)):=by
  show x*2^k%Bs=_;rw[qiy k hk,xk x,Nat.mul_mod_mul_left]
 rw[h4,Nat.two_pow_add_eq_or_of_lt h2]
theorem qyy(x y k:Nat)(hk0:0<k)(hk:k<64)(hx:x<18446744073709551616):
  bits .or .u64 ((x:Int) / 2^k) (IntKind.u64.wrap ((y:Int)*2^(64-k)))=((x / 2^k+y*2^(64-k)%18446744073709551616:Nat):Int):=by
 have h1:=xr (y*2^(64-k)) qbk
 have e:Bs=2^(64-k)*2^k:=by rw[xk];exact qiy k hk
 have h2:x / 2^k<2^(64-k):=by
  rw[xV (yd Q9V),<-e];exact hx
 have h3:2^(64-k)<=2^63:=yc Q9V Q9R
 rw[qgr,qc4,qqs _ _ Q9R h1]
 have h4:y*2^(64-k)%18446744073709551616=2^(64-k)*(y%2^k):=by
  show y*2^(64-k)%Bs=_;rw[e,xk y,Nat.mul_mod_mul_left]
 rw[h4,Nat.or_comm,<-Nat.two_pow_add_eq_or_of_lt h2,Nat.add_comm]
open Go.RowKit
theorem quf(m:Nat)(f g:Nat->Nat)(i:Nat)(u:Value)(x:Int)(hi:i<m)(hv:x=((g i:Nat):Int))(h:∀j,j<m->j≠i->f j=g j):((lim m f).setIfInBounds i u).setIfInBounds i (.int .u64 x)=lim m g:=by
 rw[<-qlj m f g i x hi hv h];apply zI;intro j;simp only[zl,Array.size_setIfInBounds];split<;>simp_all
def upTo(v k n:Nat):Nat->Nat:=λj=>if n<=j then dg (v*2^k) j else 0
theorem qqt(v k n j:Nat)(h:j≠n):upTo v k (n+1) j=upTo v k n j:=by
 unfold upTo;by_cases hj:n<=j<;>simp[hj,show n+1<=j↔n<j from Iff.rfl]<;>omega
theorem qyz(v k n:Nat):upTo v k n n=dg (v*2^k) n:=by unfold upTo;rw[if_pos (nlr _)]
theorem jbn(g o v k:Nat)(hk:k<64)(w:World)(hd:Digs w g o v):
  xa 235 #[.pointer (some ⟨g,o,none⟩),xc k] w (.agg (sz (v*2^k))):=by
 have HD:=Lib.hid hd
 clear hd
 have q0:(k:Int) / 64=0:=by omega
 have q1:(k:Int).tdiv 64=0:=Int.tdiv_eq_zero_of_lt Q9R Q9R
 have q2:(k:Int).tmod 64=k:=Int.tmod_eq_of_lt Q9R Q9R
 have q3:(k:Int)%64=k:=by omega
 go_enter func235,Tryz.ntmps235
 go_wp2
 go_loopw [6] (λi wr=>∃n:Nat,n<=16/\i=xc (n-1)/\IsRow wr (w.heap.size+1) 122 (lim 16 (upTo v k n))/\IsRow wr w.heap.size 122 (sz 0)/\Below w.heap.size w wr) (λi _=>(intOf i+1).toNat)
 case atStart=>
  refine⟨16,by omega,rfl,?_,?_,by repeat (first|with_reducible exact Below.refl _ _|with_reducible refine Below.alloc ?_ Qao _)⟩
  .rw[qdw 16 (upTo v k 16) (dg 0) (λj hj=>by rw[qgo];unfold upTo;rw[if_neg Q9R])];exact Q2H
  .exact Q5t
 case round=>
  obtain⟨n,hn,rfl,hrow,hres,hbel⟩:=hrel
  match n,hn with
  | 0,hn=>
   rw[qdw 16 (upTo v k 0) (dg (v*2^k)) (λj hj=>by unfold upTo;rw[if_pos Q9R])] at hrow;have hrow':IsRow wr (w.heap.size+1) 122 (sz (v*2^k)):=hrow;clear hrow
   go_wp2_with (first|(refine qn8 (ty:=122) rfl ?_;refine wpList_load_row ?_ 122 _ rfl (w.heap.size+1) rfl _ (sz (v*2^k)) _ _ (hrow') underlying122 rfl Qa3 ?_;(focus rfl))|(refine qdx (ty:=122) rfl ?_;refine wpList_store_row ?_ 122 _ _ rfl (w.heap.size) (sz (v*2^k)) rfl rfl _ (_) (hres) Qa3 Qa2 (qfu _) ?_;(focus rfl))|fail)
   exact bodyPost_ret (results_cell_row Tryz.results235 _ _ w.heap.size _ _ _ _ rfl (hres.row _) underlying122 rfl Qa3) rfl ⟨rfl,below_setRow hbel (nlr _) _⟩
  | n+1,hn=>
   have e1:((n+1:Nat):Int)-1=n:=by omega
   rw[e1];have c1:wr.cell? ⟨g,o+n,none⟩=some (.int .u64 ((dg v n:Nat):Int)):=(hbel.cell (p:=⟨g,o+n,none⟩) HD.out.lt).trans (HD.out n Q9R);have c3:=hrow.cell (qfh 16 (upTo v k (n+1)) n Q9R);have f3:=hrow.frozen n;have hz:=hbel.size;have hrow1:=hrow.set n (.int .u64 (IntKind.u64.wrap (((dg v n:Nat):Int)*2^k)));have hres1:IsRow (wr.setCell ⟨w.heap.size+1,n,none⟩ (.int .u64 (IntKind.u64.wrap (((dg v n:Nat):Int)*2^k)))) w.heap.size 122 (sz 0):=hres.setOther _ _ Qa2;have hbel1:Below w.heap.size w (wr.setCell ⟨w.heap.size+1,n,none⟩ (.int .u64 (IntKind.u64.wrap (((dg v n:Nat):Int)*2^k)))):=hbel.setCell Qa2 _;by_cases hk0:0<k/\0<n
   .obtain⟨hk0,hn0⟩:=hk0
    go_wp2_with fail
    clear c1 c3 f3 hrow hres hbel;generalize wr.setCell ⟨w.heap.size+1,n,none⟩ (.int .u64 (IntKind.u64.wrap (((dg v n:Nat):Int)*2^k)))=W at *;have c2:W.cell? ⟨g,o+(n-1),none⟩=some (.int .u64 ((dg v (n-1):Nat):Int)):=(hbel1.cell (p:=⟨g,o+(n-1),none⟩) HD.out.lt).trans (HD.out (n-1) Q9R);have c3:W.cell? ⟨w.heap.size+1,n,none⟩=some (.int .u64 (IntKind.u64.wrap (((dg v n:Nat):Int)*2^k))):=hrow1.cell Qbl;have f3:=hrow1.frozen n
    go_region
    go_wp2_with fail
    go_roundw
    case rel=>
     refine⟨n,by omega,by go_num,?_,hres1.setOther _ _ Qa2,(hbel1.setCell Qa2 _).drew⟩
     have h2:=hrow1.set n (.int .u64 (bits .or .u64 (IntKind.u64.wrap (((dg v n:Nat):Int)*2^k)) (((dg v (n-1):Nat):Int) / 2^(64-k))))
     rw[quf 16 (upTo v k (n+1)) (upTo v k n) n _ _ Q9R (by rw[jk4 _ _ _ hk0 hk (je9 _ _),qyz,qoe v k n hk hn0]) (λj _ hj=>qqt v k n j hj)] at h2
     exact h2
    case measure=>simp[intOf]
   .have hval:IntKind.u64.wrap (((dg v n:Nat):Int)*2^k)=((upTo v k n n:Nat):Int):=by
     rw[qgr,qyz];by_cases hn0:n=0
     .subst hn0;rw[que]
     .obtain rfl:k=0:=by omega
      rw[Nat.pow_zero,x9,x9,xC (je9 v n)]
    rw[qlj 16 (upTo v k (n+1)) (upTo v k n) n _ Q9R hval (λj _ hj=>qqt v k n j hj)] at hrow1;have HV:=Lib.hid hval;clear hval;by_cases hk1:0<k
    .have hn0:¬ 0<n:=λh=>hk0 ⟨hk1,h⟩
     have hn1:decide ((n:Int) > 0)=false:=xf Q9R;clear hk0;exact Q4l
    .clear hk0;have hk2:decide ((k:Int) > 0)=false:=xf Q9R;exact Q4l
def qb8(v k n:Nat):Nat->Nat:=λj=>if j<n then dg (v / 2^k) j else 0
theorem qf6(v k n j:Nat)(h:j≠n):qb8 v k n j=qb8 v k (n+1) j:=by
 unfold qb8;by_cases hj:j<n<;>simp[hj]<;>omega
theorem qiz(v k n:Nat):qb8 v k (n+1) n=dg (v / 2^k) n:=by unfold qb8;rw[if_pos Q9R]
theorem q26(g o v k:Nat)(hk:k<64)(hv:v<Bs^16)(w:World)(hd:Digs w g o v):
  Calls prog 237 #[.pointer (some ⟨g,o,none⟩),xc k] w λe w'=>(∃b,e=.returned (.tuple #[.agg (sz (v / 2^k)),.bool b]))/\Below w.heap.size w w':=by
 have HD:=Lib.hid hd
 clear hd
 have q0:(k:Int) / 64=0:=by omega
 have q1:(k:Int).tdiv 64=0:=Int.tdiv_eq_zero_of_lt Q9R Q9R
 have q2:(k:Int).tmod 64=k:=Int.tmod_eq_of_lt Q9R Q9R
 have q3:(k:Int)%64=k:=by omega
 go_enter func237,Tryz.ntmps237
 go_wp2
 have hrow0:IsRow ((w.alloc (.cells #[.int .u64 0,.int .u64 0,.int .u64 0,.int .u64 0,.int .u64 0,.int .u64 0,.int .u64 0,.int .u64 0,.int .u64 0,.int .u64 0,.int .u64 0,.int .u64 0,.int .u64 0,.int .u64 0,.int .u64 0,.int .u64 0] 122)).alloc (.cells #[.int .u64 0,.int .u64 0,.int .u64 0,.int .u64 0,.int .u64 0,.int .u64 0,.int .u64 0,.int .u64 0,.int .u64 0,.int .u64 0,.int .u64 0,.int .u64 0,.int .u64 0,.int .u64 0,.int .u64 0,.int .u64 0] 122)) (w.heap.size+1) 122 (sz 0):=Q2H
 have hres0:IsRow ((w.alloc (.cells #[.int .u64 0,.int .u64 0,.int .u64 0,.int .u64 0,.int .u64 0,.int .u64 0,.int .u64 0,.int .u64 0,.int .u64 0,.int .u64 0,.int .u64 0,.int .u64 0,.int .u64 0,.int .u64 0,.int .u64 0,.int .u64 0] 122)).alloc (.cells #[.int .u64 0,.int .u64 0,.int .u64 0,.int .u64 0,.int .u64 0,.int .u64 0,.int .u64 0,.int .u64 0,.int .u64 0,.int .u64 0,.int .u64 0,.int .u64 0,.int .u64 0,.int .u64 0,.int .u64 0,.int .u64 0] 122)) w.heap.size 122 (sz 0):=Q5t
 have hbel0:Below w.heap.size w ((w.alloc (.cells #[.int .u64 0,.int .u64 0,.int .u64 0,.int .u64 0,.int .u64 0,.int .u64 0,.int .u64 0,.int .u64 0,.int .u64 0,.int .u64 0,.int .u64 0,.int .u64 0,.int .u64 0,.int .u64 0,.int .u64 0,.int .u64 0] 122)).alloc (.cells #[.int .u64 0,.int .u64 0,.int .u64 0,.int .u64 0,.int .u64 0,.int .u64 0,.int .u64 0,.int .u64 0,.int .u64 0,.int .u64 0,.int .u64 0,.int .u64 0,.int .u64 0,.int .u64 0,.int .u64 0,.int .u64 0] 122)):=by
  repeat (first|with_reducible exact Below.refl _ _|with_reducible refine Below.alloc ?_ Qao _)
 generalize ((w.alloc (.cells #[.int .u64 0,.int .u64 0,.int .u64 0,.int .u64 0,.int .u64 0,.int .u64 0,.int .u64 0,.int .u64 0,.int .u64 0,.int .u64 0,.int .u64 0,.int .u64 0,.int .u64 0,.int .u64 0,.int .u64 0,.int .u64 0] 122)).alloc (.cells #[.int .u64 0,.int .u64 0,.int .u64 0,.int .u64 0,.int .u64 0,.int .u64 0,.int .u64 0,.int .u64 0,.int .u64 0,.int .u64 0,.int .u64 0,.int .u64 0,.int .u64 0,.int .u64 0,.int .u64 0,.int .u64 0] 122))=W0 at hrow0 hres0 hbel0 ⊢
 go_loopw [7,13] (λr i wr=>wr=W0/\r=.bool false/\i=xc 0) (λ_ _ _=>0)
 case atStart=>exact⟨rfl,rfl,rfl⟩
 case round=>
  obtain⟨e0,rfl,rfl⟩:=hrel
  have e1:=e0.symm
  clear e0
  subst e1
  go_wp2_with fail
  go_loopw [9] (λi wr=>∃n:Nat,n<=16/\i=xc n/\IsRow wr (w.heap.size+1) 122 (lim 16 (qb8 v k n))/\IsRow wr w.heap.size 122 (sz 0)/\Below w.heap.size w wr) (λi _=>16-(intOf i).toNat)
  case atStart=>
   refine⟨0,by omega,rfl,?_,hres0,hbel0⟩
   rw[qdw 16 (qb8 v k 0) (dg 0) (λj hj=>by rw[qgo];unfold qb8;rw[if_neg Q9R])]
   exact hrow0
  case round=>
   obtain⟨n,hn,rfl,hrow,hres,hbel⟩:=hrel
   by_cases hlt:n<16
   .have c1:wr.cell? ⟨g,o+n,none⟩=some (.int .u64 ((dg v n:Nat):Int)):=(hbel.cell (p:=⟨g,o+n,none⟩) HD.out.lt).trans (HD.out n Q9R);have c3:=hrow.cell (qfh 16 (qb8 v k n) n hlt);have f3:=hrow.frozen n;have hz:=hbel.size;have hrow1:=hrow.set n (.int .u64 (((dg v n:Nat):Int) / 2^k));have hres1:IsRow (wr.setCell ⟨w.heap.size+1,n,none⟩ (.int .u64 (((dg v n:Nat):Int) / 2^k))) w.heap.size 122 (sz 0):=hres.setOther _ _ Qa2;have hbel1:Below w.heap.size w (wr.setCell ⟨w.heap.size+1,n,none⟩ (.int .u64 (((dg v n:Nat):Int) / 2^k))):=hbel.setCell Qa2 _;by_cases hk0:0<k/\n+1<16
    .obtain⟨hk0,hn0⟩:=hk0
     go_wp2_with fail
     clear c1 c3 f3 hrow hres hbel;generalize wr.setCell ⟨w.heap.size+1,n,none⟩ (.int .u64 (((dg v n:Nat):Int) / 2^k))=W at *;have c2:W.cell? ⟨g,o+(n+1),none⟩=some (.int .u64 ((dg v (n+1):Nat):Int)):=(hbel1.cell (p:=⟨g,o+(n+1),none⟩) HD.out.lt).trans (HD.out (n+1) Q9R);have c3:W.cell? ⟨w.heap.size+1,n,none⟩=some (.int .u64 (((dg v n:Nat):Int) / 2^k)):=hrow1.cell Qbl;have f3:=hrow1.frozen n
     go_region
     go_wp2_with fail
     go_roundw
     case rel=>
      refine⟨n+1,by omega,by go_num,?_,hres1.setOther _ _ Qa2,(hbel1.setCell Qa2 _).drew⟩
      have h2:=hrow1.set n (.int .u64 (bits .or .u64 (((dg v n:Nat):Int) / 2^k) (IntKind.u64.wrap (((dg v (n+1):Nat):Int)*2^(64-k)))))
      rw[quf 16 (qb8 v k n) (qb8 v k (n+1)) n _ _ Q9R (by rw[qyy _ _ _ hk0 hk (je9 _ _),qiz,qn7 v n k hk]) (λj _ hj=>qf6 v k n j hj)] at h2
      exact h2
     case measure=>simp[intOf];omega
    .have hval:((dg v n:Nat):Int) / 2^k=((qb8 v k (n+1) n:Nat):Int):=by
      rw[qc4,qiz,qn7 v n k hk];by_cases hn0:n+1<16
      .obtain rfl:k=0:=by omega
       rw[show dg v (n+1)*2^(64-0)%18446744073709551616=0 from Nat.mul_mod_left _ _,x7]
      .obtain rfl:n=15:=by omega
       rw[qbt v 16 hv,yG,Nat.zero_mod,x7]
     rw[qlj 16 (qb8 v k n) (qb8 v k (n+1)) n _ Q9R hval (λj _ hj=>qf6 v k n j hj)] at hrow1;have HV:=Lib.hid hval;clear hval;by_cases hk1:0<k
     .have hn0:¬ n+1<16:=λh=>hk0 ⟨hk1,h⟩
      have hn1:decide ((n:Int)+1<16)=false:=xf Q9R;clear hk0;exact Q4b
     .clear hk0;have hk2:decide ((k:Int) > 0)=false:=xf Q9R;exact Q4b
   .obtain rfl:n=16:=by omega
    have c1:wr.cell? ⟨g,o,none⟩=some (.int .u64 ((dg v 0:Nat):Int)):=(hbel.cell (p:=⟨g,o,none⟩) HD.out.lt).trans (HD.out 0 Q9R);rw[qdw 16 (qb8 v k 16) (dg (v / 2^k)) (λj hj=>by unfold qb8;rw[if_pos hj])] at hrow;have hrow':IsRow wr (w.heap.size+1) 122 (sz (v / 2^k)):=hrow;clear hrow;by_cases hk1:0<k
    .exact Q1t
    .have hk2:decide ((k:Int) > 0)=false:=xf Q9R;exact Q1t
open Go.RowKit
theorem qug(lo y:Nat)(hlo:lo<18446744073709551616)(hy0:0<y)(hy:y<18446744073709551616)(w:World):
  xa 233 #[.int .u64 0,.int .u64 lo,.int .u64 y] w (.tuple #[.int .u64 (lo / y:Nat),.int .u64 (lo%y:Nat)]):=by
 have hB:Below w.heap.size w w:=Below.refl _ _
 have h1:((y:Int)==0)=false:=by simp;omega
 have h2:¬ (y:Int)<=0:=by omega
 have h3:(lo:Int).tdiv y=((lo / y:Nat):Int):=rfl
 have h4:(lo:Int).tmod y=((lo%y:Nat):Int):=rfl
 have h5:lo / y<18446744073709551616:=xQ (yO _ _) hlo
 have h6:lo%y<18446744073709551616:=xQ (Nat.mod_le _ _) hlo
 go_enter func233,Tryz.ntmps233
 go_wp2_with fail
 go_region
 go_wp2_with fail
 have e1:IntKind.u64.wrap ((lo:Int) / (y:Int))=((lo / y:Nat):Int):=by
  rw[show(lo:Int) / (y:Int)=((lo / y:Nat):Int) from rfl,xn];generalize lo / y=q at *;omega
 have e2:(lo:Int)%(y:Int)=((lo%y:Nat):Int):=rfl
 exact bodyPost_ret (v:=.tuple #[.int .u64 (lo / y:Nat),.int .u64 (lo%y:Nat)]) (by simp[results,Tryz.results233,e1]) rfl ⟨rfl,hB.drew⟩
def jg2(a b n:Nat):Nat->Nat:=λj=>if n<=j then dg (a / b) j else 0
theorem qqu(a b n j:Nat)(h:j≠n):jg2 a b (n+1) j=jg2 a b n j:=by
 unfold jg2;by_cases hj:n<=j<;>simp[hj,show n+1<=j↔n<j from Iff.rfl]<;>omega
theorem qy0(a b n:Nat):jg2 a b n n=dg (a / b) n:=by unfold jg2;rw[if_pos (nlr _)]
def rm(a b i:Nat):Nat:=a / Bs^i%b
theorem qy1(a b:Nat):cm a b<0↔a<b:=by unfold cm;split<;>(try split)<;>omega
theorem jbo(b:Nat)(h0:0<b)(h:b<18446744073709551616):nd b=1:=by
 have key:∀n,ndTo b (n+1)=1:=by
  intro n
  induction n with
  | zero=>
   rw[ndTo];rw[if_neg (by rw[qhm b h];simp;omega)]
  | succ n ih=>rw[ndTo,if_pos (by rw[qhm b h];simp),ih]
 exact key 15
theorem qv8(a b:Nat)(ha:a<Bs^16)(hb0:0<b)(hb:b<18446744073709551616)
  (H:∀(i:Nat)(w:World),i<nd a->Calls prog 233 #[.int .u64 (rm a b (i+1):Nat),.int .u64 (dg a i:Nat),.int .u64 (b:Nat)] w λe w'=>
   e=.returned (.tuple #[.int .u64 (dg (a / b) i:Nat),.int .u64 (rm a b i:Nat)])/\Below w.heap.size w w') (w:World) :
  xa 215 #[.agg (sz a),.agg (sz b)] w (.tuple #[.agg (sz (a / b)),.agg (sz (a%b))]):=by
 have hb16:b<Bs^16:=xl hb (Nat.le_self_pow Q9V Bs)
 have hB:Below w.heap.size w w:=Below.refl _ _
 go_enter func215,Tryz.ntmps215
 go_wp2_with fail
 have r0:IsRow ((((((w.alloc (.cells (sz a) 122)).alloc (.cells (sz b) 122)).alloc (.cells (sz 0) 122)).alloc (.cells (sz 0) 122)).alloc (.cells (sz 0) 122)).alloc (.cells (sz 0) 122)) w.heap.size 122 (sz a):=(((((IsRow.new w (sz a) 122).alloc (.cells (sz b) 122)).alloc (.cells (sz 0) 122)).alloc (.cells (sz 0) 122)).alloc (.cells (sz 0) 122)).alloc (.cells (sz 0) 122)
 have r1:IsRow ((((((w.alloc (.cells (sz a) 122)).alloc (.cells (sz b) 122)).alloc (.cells (sz 0) 122)).alloc (.cells (sz 0) 122)).alloc (.cells (sz 0) 122)).alloc (.cells (sz 0) 122)) (w.heap.size+1) 122 (sz b):=by
  have h:=((((IsRow.new (w.alloc (.cells (sz a) 122)) (sz b) 122).alloc (.cells (sz 0) 122)).alloc (.cells (sz 0) 122)).alloc (.cells (sz 0) 122)).alloc (.cells (sz 0) 122);rw[show(w.alloc (.cells (sz a) 122)).heap.size=w.heap.size+1 by simp] at h;exact h
 have r2:IsRow ((((((w.alloc (.cells (sz a) 122)).alloc (.cells (sz b) 122)).alloc (.cells (sz 0) 122)).alloc (.cells (sz 0) 122)).alloc (.cells (sz 0) 122)).alloc (.cells (sz 0) 122)) (w.heap.size+1+1) 122 (sz 0):=by
  have h:=(((IsRow.new ((w.alloc (.cells (sz a) 122)).alloc (.cells (sz b) 122)) (sz 0) 122).alloc (.cells (sz 0) 122)).alloc (.cells (sz 0) 122)).alloc (.cells (sz 0) 122);rw[show((w.alloc (.cells (sz a) 122)).alloc (.cells (sz b) 122)).heap.size=w.heap.size+1+1 by simp] at h;exact h
 have r3:IsRow ((((((w.alloc (.cells (sz a) 122)).alloc (.cells (sz b) 122)).alloc (.cells (sz 0) 122)).alloc (.cells (sz 0) 122)).alloc (.cells (sz 0) 122)).alloc (.cells (sz 0) 122)) (w.heap.size+1+1+1) 122 (sz 0):=by
  have h:=((IsRow.new (((w.alloc (.cells (sz a) 122)).alloc (.cells (sz b) 122)).alloc (.cells (sz 0) 122)) (sz 0) 122).alloc (.cells (sz 0) 122)).alloc (.cells (sz 0) 122);rw[show(((w.alloc (.cells (sz a) 122)).alloc (.cells (sz b) 122)).alloc (.cells (sz 0) 122)).heap.size=w.heap.size+1+1+1 by simp] at h;exact h
 have r4:IsRow ((((((w.alloc (.cells (sz a) 122)).alloc (.cells (sz b) 122)).alloc (.cells (sz 0) 122)).alloc (.cells (sz 0) 122)).alloc (.cells (sz 0) 122)).alloc (.cells (sz 0) 122)) (w.heap.size+1+1+1+1) 122 (sz 0):=by
  have h:=(IsRow.new ((((w.alloc (.cells (sz a) 122)).alloc (.cells (sz b) 122)).alloc (.cells (sz 0) 122)).alloc (.cells (sz 0) 122)) (sz 0) 122).alloc (.cells (sz 0) 122);rw[show((((w.alloc (.cells (sz a) 122)).alloc (.cells (sz b) 122)).alloc (.cells (sz 0) 122)).alloc (.cells (sz 0) 122)).heap.size=w.heap.size+1+1+1+1 by simp] at h;exact h
 have hB0:Below w.heap.size w ((((((w.alloc (.cells (sz a) 122)).alloc (.cells (sz b) 122)).alloc (.cells (sz 0) 122)).alloc (.cells (sz 0) 122)).alloc (.cells (sz 0) 122)).alloc (.cells (sz 0) 122)):=by
  repeat (first|with_reducible exact hB|with_reducible refine Below.alloc ?_ Qao _)
 have hsz0:((((((w.alloc (.cells (sz a) 122)).alloc (.cells (sz b) 122)).alloc (.cells (sz 0) 122)).alloc (.cells (sz 0) 122)).alloc (.cells (sz 0) 122)).alloc (.cells (sz 0) 122)).heap.size=w.heap.size+6:=by simp
 rw[<-qfi]
 generalize ((((((w.alloc (.cells (sz a) 122)).alloc (.cells (sz b) 122)).alloc (.cells (sz 0) 122)).alloc (.cells (sz 0) 122)).alloc (.cells (sz 0) 122)).alloc (.cells (sz 0) 122))=W at r0 r1 r2 r3 r4 hB0 hsz0 ⊢
 refine(qyv w.heap.size 0 a (w.heap.size+1) 0 b W (Digs.of_sz r0) (Digs.of_sz r1) ha hb16).mono ?_
 rintro e w1 ⟨rfl,hb1,hs1⟩
 have l0:=r0.below hb1 r0.lt
 have l1:=r1.below hb1 r1.lt
 have l2:=r2.below hb1 r2.lt
 have l3:=r3.below hb1 r3.lt
 have l4:=r4.below hb1 r4.lt
 have hB1:Below w.heap.size w w1:=hB0.trans (hb1.mono Q9R)
 have hz1:w1.heap.size=w.heap.size+6:=by omega
 clear r0 r1 r2 r3 r4 hb1 hB0 hs1 hsz0 hB
 by_cases hab:a<b
 .have hc:cm a b = -1:=by unfold cm;rw[if_pos hab]
  rw[hc];clear hc
  go_wp2_with fail
  refine wp_region_any Q9W ?_;change wpAny _ _ _ _ _ _ _ (World.drew _);refine wpAny_ready (rs:=[0,1]) Q9W Qa2 ?_;refine AllReady.cons rfl (λK hK=>?_) (AllReady.cons rfl (λK hK=>?_) AllReady.nil)
  .refine qdk rfl 122 _ rfl (w.heap.size+1+1+1+1) rfl _ (sz 0) _ _ (l4.drew) underlying122 rfl Qa3 ?_;refine hK _ _ ?_;clear hK K;refine wpAny_ready (rs:=[1,2]) Q9W Qa2 ?_;refine AllReady.cons rfl (λK hK=>?_) (AllReady.cons rfl (λK hK=>?_) AllReady.nil)
   .refine qdk rfl 122 _ rfl (w.heap.size) rfl _ (sz a) _ _ (l0.drew) underlying122 rfl Qa3 ?_;refine hK _ _ ?_;clear hK K;refine wpAny_ready (rs:=[2]) Q9W Qa2 ?_;refine AllReady.cons rfl (λK hK=>?_) AllReady.nil;refine qcm rfl 122 _ _ rfl (w.heap.size+1+1) (sz 0) rfl rfl _ _ (l2.drew) Qa3 Qa2 (qfu _) ?_;refine hK _ _ ?_;clear hK K;refine wpAny_ready (rs:=[3]) Q9W Qa2 ?_;refine AllReady.cons rfl (λK hK=>?_) AllReady.nil;refine qcm rfl 122 _ _ rfl (w.heap.size+1+1+1) (sz a) rfl rfl _ _ (l3.drew.rowOther (w.heap.size+1+1) (sz 0) Q9R) Qa3 Qa2 (qfu _) ?_;refine hK _ _ ?_;clear hK K;refine wpAny_done Q9W ?_ _
    go_wp2_with fail
    have m2:=(l2.drew.row (sz 0)).rowOther (w.heap.size+1+1+1) (sz a) Q9R;have m3:=(l3.drew.rowOther (w.heap.size+1+1) (sz 0) Q9R).row (sz a);have h2:=run_loadVar_row (P:=prog) _ _ _ 122 _ _ _ m2 underlying122 rfl Qa3;have h3:=run_loadVar_row (P:=prog) _ _ _ 122 _ _ _ m3 underlying122 rfl Qa3;exact bodyPost_ret Q92 rfl ⟨by rw[xM hab,xC hab],below_setRow (below_setRow hB1.drew Q9R _) Q9R _⟩
   .refine qcm rfl 122 _ _ rfl (w.heap.size+1+1) (sz 0) rfl rfl _ _ (l2.drew) Qa3 Qa2 (qfu _) ?_;refine hK _ _ ?_;clear hK K;refine wpAny_ready (rs:=[1]) Q9W Qa2 ?_;refine AllReady.cons rfl (λK hK=>?_) AllReady.nil;refine qdk rfl 122 _ rfl (w.heap.size) rfl _ (sz a) _ _ (l0.drew.rowOther (w.heap.size+1+1) (sz 0) Q9R) underlying122 rfl Qa3 ?_;refine hK _ _ ?_;clear hK K;refine wpAny_ready (rs:=[3]) Q9W Qa2 ?_;refine AllReady.cons rfl (λK hK=>?_) AllReady.nil;refine qcm rfl 122 _ _ rfl (w.heap.size+1+1+1) (sz a) rfl rfl _ _ (l3.drew.rowOther (w.heap.size+1+1) (sz 0) Q9R) Qa3 Qa2 (qfu _) ?_;refine hK _ _ ?_;clear hK K;refine wpAny_done Q9W ?_ _
    go_wp2_with fail
    have m2:=(l2.drew.row (sz 0)).rowOther (w.heap.size+1+1+1) (sz a) Q9R;have m3:=(l3.drew.rowOther (w.heap.size+1+1) (sz 0) Q9R).row (sz a);have h2:=run_loadVar_row (P:=prog) _ _ _ 122 _ _ _ m2 underlying122 rfl Qa3;have h3:=run_loadVar_row (P:=prog) _ _ _ 122 _ _ _ m3 underlying122 rfl Qa3;exact bodyPost_ret Q92 rfl ⟨by rw[xM hab,xC hab],below_setRow (below_setRow hB1.drew Q9R _) Q9R _⟩
  .refine qdk rfl 122 _ rfl (w.heap.size) rfl _ (sz a) _ _ (l0.drew) underlying122 rfl Qa3 ?_;refine hK _ _ ?_;clear hK K;refine wpAny_ready (rs:=[0]) Q9W Qa2 ?_;refine AllReady.cons rfl (λK hK=>?_) AllReady.nil;refine qdk rfl 122 _ rfl (w.heap.size+1+1+1+1) rfl _ (sz 0) _ _ (l4.drew) underlying122 rfl Qa3 ?_;refine hK _ _ ?_;clear hK K;refine wpAny_ready (rs:=[2]) Q9W Qa2 ?_;refine AllReady.cons rfl (λK hK=>?_) AllReady.nil;refine qcm rfl 122 _ _ rfl (w.heap.size+1+1) (sz 0) rfl rfl _ _ (l2.drew) Qa3 Qa2 (qfu _) ?_;refine hK _ _ ?_;clear hK K;refine wpAny_ready (rs:=[3]) Q9W Qa2 ?_;refine AllReady.cons rfl (λK hK=>?_) AllReady.nil;refine qcm rfl 122 _ _ rfl (w.heap.size+1+1+1) (sz a) rfl rfl _ _ (l3.drew.rowOther (w.heap.size+1+1) (sz 0) Q9R) Qa3 Qa2 (qfu _) ?_;refine hK _ _ ?_;clear hK K;refine wpAny_done Q9W ?_ _
   go_wp2_with fail
   have m2:=(l2.drew.row (sz 0)).rowOther (w.heap.size+1+1+1) (sz a) Q9R;have m3:=(l3.drew.rowOther (w.heap.size+1+1) (sz 0) Q9R).row (sz a);have h2:=run_loadVar_row (P:=prog) _ _ _ 122 _ _ _ m2 underlying122 rfl Qa3;have h3:=run_loadVar_row (P:=prog) _ _ _ 122 _ _ _ m3 underlying122 rfl Qa3;exact bodyPost_ret Q92 rfl ⟨by rw[xM hab,xC hab],below_setRow (below_setRow hB1.drew Q9R _) Q9R _⟩
 .have hc:decide (cm a b<0)=false:=xf (by rw[qy1];exact hab);have hn1:=jbo b hb0 hb
  go_wp2_with fail
  refine(qiw w.heap.size 0 a _ (Digs.of_sz l0)).mono ?_;rintro e w' ⟨rfl,rfl⟩
  go_wp2_with fail
  refine(qiw (w.heap.size+1) 0 b _ (Digs.of_sz l1)).mono ?_;rintro e w' ⟨rfl,rfl⟩;rw[hn1];have hna:=jht a;have hlt:=qgq a 16 ha;rw[show ndTo a 16=nd a from rfl] at hlt
  go_wp2_with fail
  go_loopw [10,11] (λl i wr=>∃n:Nat,n<=nd a/\i=xc (n-1)/\l=.int .u64 (rm a b n:Nat)/\IsRow wr w.heap.size 122 (sz a)/\IsRow wr (w.heap.size+1) 122 (sz b)/\IsRow wr (w.heap.size+1+1) 122 (sz 0)/\IsRow wr (w.heap.size+1+1+1) 122 (sz 0)/\IsRow wr (w.heap.size+1+1+1+1) 122 (lim 16 (jg2 a b n))/\Below w.heap.size w wr) (λ_ i _=>(intOf i+1).toNat)
  case atStart=>
   refine⟨nd a,nlr _,rfl,by unfold rm;rw[xM hlt,Nat.zero_mod];rfl,l0,l1,l2,l3,?_,hB1⟩
   rw[qdw 16 (jg2 a b (nd a)) (dg 0) (λj hj=>by
    rw[qgo];unfold jg2;split
    .exact qbt _ _ (xQ (yO _ _) (xl hlt (yc qbk Q9R)))
    .rfl)]
   exact l4
  case round=>
   clear l0 l1 l2 l3 l4 hB1 hz1
   obtain⟨n,hn,rfl,rfl,l0,l1,l2,l3,l4,hB1⟩:=hrel
   match n,hn with
   | 0,hn=>
    rw[qdw 16 (jg2 a b 0) (dg (a / b)) (λj hj=>by unfold jg2;rw[if_pos Q9R])] at l4;have l4':IsRow wr (w.heap.size+1+1+1+1) 122 (sz (a / b)):=l4;clear l4;have hrm:rm a b 0=a%b:=by unfold rm;rw[Nat.pow_zero,yY]
    have hbm:a%b<18446744073709551616:=xE (xr a hb0) hb;have hbt:prog.built 122 [(0,.int .u64 ((rm a b 0:Nat):Int))]=some (sz (a%b)):=by rw[hrm];exact qod (a%b) hbm
    clear hrm
    go_wp2_with (first|(refine qn8 (ty:=122) rfl ?_;refine wpList_load_row ?_ 122 _ rfl (w.heap.size+1+1+1+1) rfl _ (sz (a / b)) _ _ (l4') underlying122 rfl Qa3 ?_;(focus rfl))|(refine qiv (ty:=122) rfl ?_;refine qf4 ?_ 122 0 _ rfl (.int .u64 ((rm a b 0:Nat):Int)) rfl (sz (a%b)) (hbt) ?_;(focus rfl))|(refine qdx (ty:=122) rfl ?_;refine wpList_store_row ?_ 122 _ _ rfl (w.heap.size+1+1) (sz (a / b)) rfl rfl _ (_) (l2) Qa3 Qa2 (qfu _) ?_;(focus rfl))|(refine qdx (ty:=122) rfl ?_;refine wpList_store_row ?_ 122 _ _ rfl (w.heap.size+1+1+1) (sz (a%b)) rfl rfl _ (_) (l3.rowOther (w.heap.size+1+1) (sz (a / b)) Q9R) Qa3 Qa2 (qfu _) ?_;(focus rfl))|fail)
    have m2:=(l2.row (sz (a / b))).rowOther (w.heap.size+1+1+1) (sz (a%b)) Q9R;have m3:=(l3.rowOther (w.heap.size+1+1) (sz (a / b)) Q9R).row (sz (a%b));have h2:=run_loadVar_row (P:=prog) _ _ _ 122 _ _ _ m2 underlying122 rfl Qa3;have h3:=run_loadVar_row (P:=prog) _ _ _ 122 _ _ _ m3 underlying122 rfl Qa3;exact bodyPost_ret Q92 rfl ⟨rfl,below_setRow (below_setRow hB1 Q9R _) Q9R _⟩
   | n+1,hn=>
    have e1:((n+1:Nat):Int)-1=n:=by omega
    rw[e1];have i0:(0:Int)<=(n:Int):=by omega
    have i1:(n:Int)<16:=by omega
    have i2:(n:Int)<=16:=by omega
    have i3:(n:Int).toNat=n:=by omega
    have c0:=l0.cell (qmz a n Q9R);have c1:=l1.cell (qmz b 0 Q9R);rw[show dg b 0=b by rw[qhm b hb];rfl] at c1;have c4:=l4.cell (qfh 16 (jg2 a b (n+1)) n Q9R);have f4:=l4.frozen n;have hz:=hB1.size
    go_wp2_with fail
    go_region_held3 (λw'=>w'.cell? ⟨w.heap.size,n,none⟩=some (.int .u64 (dg a n:Nat))/\w'.cell? ⟨w.heap.size+1,0,none⟩=some (.int .u64 (b:Nat))) (first|exact⟨c0,c1⟩|exact⟨k0,k1⟩|(refine⟨?_,?_⟩<;>(repeat (first|with_reducible assumption|with_reducible refine qme ?_|with_reducible refine qlc ?_|with_reducible refine qn1 ?_|with_reducible refine qn0 ?_ (by first|(simp only[ne_eq,Addr.mk.injEq,and_true];omega)|(simp;done)|(simp;omega))));done)|(go_keep;done))
     (first|(go_at_call 233;refine(H n _ Q9R).mono ?_;rintro e w1 ⟨rfl,hbw⟩;have m0:=l0.drew.below hbw l0.lt;have m1:=l1.drew.below hbw l1.lt;have m2:=l2.drew.below hbw l2.lt;have m3:=l3.drew.below hbw l3.lt;have m4:=l4.drew.below hbw l4.lt;have hB:=hB1.drew.trans (hbw.mono hz);have k0:=m0.cell (qmz a n Q9R);have k1:=m1.cell (show(sz b)[0]?=some (.int .u64 (b:Nat)) by rw[qmz b 0 Q9R,qhm b hb];rfl);have k4:=m4.cell (qfh 16 (jg2 a b (n+1)) n Q9R);have kf:=m4.frozen n))
    all_goals
     go_wp2_with fail
     go_roundw
    all_goals first
     | (case measure=>simp[intOf])
     | (case rel=>
       refine⟨n,by omega,rfl,rfl,m0.setOther _ _ QaB,m1.setOther _ _ QaB,m2.setOther _ _ QaB,m3.setOther _ _ QaB,?_,hB.setCell (by show w.heap.size<=w.heap.size+1+1+1+1;omega) _⟩;have hs:=m4.set n (.int .u64 (dg (a / b) n:Nat));rw[qlj 16 (jg2 a b (n+1)) (jg2 a b n) n _ Q9R (by rw[qy0]) (λj _ hj=>qqu a b n j hj)] at hs;exact hs)
end Go.Proofs.YtfkngpmgcimdbaaGreat


namespace Go.Proofs.YtfkngpmgcimdbaaGreat.Knuth
abbrev h:Nat:=4294967296
variable{y1 y0 u d q r:Nat}
structure Guess(y1 y0 u d q r:Nat):Prop where
 sum:q*y1+r=u
 ge:(u*h+d) / (y1*h+y0)<=q
 le:q<=h+1
theorem digit_lt(hd:d<h)(hu:u<y1*h+y0):(u*h+d) / (y1*h+y0)<h:=by
 rw[xV Q9R];have:(u+1)*h<=(y1*h+y0)*h:=yb _ hu;rw[xy] at this;rw[xk h];simp only[h] at *;omega
theorem first(hy1:2147483648<=y1)(hy1':y1<h)(hy0:y0<h)(hd:d<h)(hu:u<y1*h+y0):Guess y1 y0 u d (u / y1) (u%y1):=by
 have hp:0<y1:=by omega
 refine⟨by rw[xk];exact xz u y1,?_,?_⟩
 ·-- the digit is at most u / y1
  have e1:(u*h+d) / (y1*h+y0)<=(u*h+d) / (y1*h):=Nat.div_le_div_left Q9R (by simp only[h];omega);have e2:(u*h+d) / (y1*h)=u / y1:=by
   rw[xk y1,<-ya,xk u,yW Q9V,xM hd,x7]
  omega
 .have:u / y1<h+2:=by
   rw[xV hp,xy];simp only[h] at *;omega
  omega
theorem qy2(hp:0<y1*h+y0)(hs:q*y1+r=u)(hg:h*r+d<q*y0):(u*h+d) / (y1*h+y0)<q:=by
 rw[xV hp];exact Q4C
theorem jqk(hp:0<y1*h+y0)(hs:q*y1+r=u)(hg:q*y0<=h*r+d):q<=(u*h+d) / (y1*h+y0):=by
 rw[zj hp];exact Q4C
theorem down(hd:d<h)(hu:u<y1*h+y0)(g:Guess y1 y0 u d q r)(ht:h<=q\/h*r+d<q*y0):0<q/\Guess y1 y0 u d (q-1) (r+y1):=by
 have hp:0<y1*h+y0:=by omega
 have hlt:=digit_lt hd hu;have hq:(u*h+d) / (y1*h+y0)<q:=by
  rcases ht with h1|h1
  .exact xl hlt h1
  .exact qy2 hp g.sum h1
 have h0:0<q:=xQ (xi _) hq;obtain⟨k,rfl⟩:∃k,q=k+1:=⟨q-1,by omega⟩;refine⟨h0,⟨?_,by simp only[Nat.add_sub_cancel];omega,by have:=g.le;simp only[Nat.add_sub_cancel];omega⟩⟩;have:=g.sum;rw[xy,zh] at this;simp only[Nat.add_sub_cancel];omega
theorem stop(hd:d<h)(hu:u<y1*h+y0)(g:Guess y1 y0 u d q r)(hq:q<h)(ht:q*y0<=h*r+d):q=(u*h+d) / (y1*h+y0):=by
 have:=jqk Q9R g.sum ht;have:=g.ge;omega
theorem stop'(hy0:y0<h)(hd:d<h)(hu:u<y1*h+y0)(g:Guess y1 y0 u d q r)(hq:q<=h)(hr:h<=r):q=(u*h+d) / (y1*h+y0):=by
 have e1:q*y0<=h*y0:=yb _ hq;have e2:h*h<=h*r:=yZ _ hr;have e3:h*y0<=h*h:=yZ _ (Nat.le_of_lt hy0);have:=jqk Q9R g.sum (show q*y0<=h*r+d by omega);have:=g.ge;omega
theorem two(u d1 d0 Y:Nat)(hY:0<Y):(u*h*h+d1*h+d0) / Y=(u*h+d1) / Y*h+((u*h+d1)%Y*h+d0) / Y/\(u*h*h+d1*h+d0)%Y=((u*h+d1)%Y*h+d0)%Y:=by
 have e0:=xz (u*h+d1) Y;have e:u*h*h+d1*h+d0=Y*((u*h+d1) / Y*h)+((u*h+d1)%Y*h+d0):=by
  rw[<-xy]
  conv=>lhs;rw[<-e0]
  rw[xy,xR,ye]
 rw[e,yW hY,zw];exact⟨rfl,rfl⟩
theorem words(hi lo s:Nat)(hs:s<64):(hi*18446744073709551616+lo)*2^s=(hi*2^s+lo / 2^(64-s))*18446744073709551616+lo*2^s%18446744073709551616:=by
 have e:(18446744073709551616:Nat)=2^(64-s)*2^s:=by rw[<-yf,show 64-s+s=64 by omega]
 have hp:0<2^s:=yd Q9V;have e1:lo*2^s / 18446744073709551616=lo / 2^(64-s):=by
  rw[e,Nat.mul_div_mul_right _ _ hp]
 have e2:=xz (lo*2^s) 18446744073709551616;rw[e1] at e2;rw[xy,xy,zu hi];omega
theorem back(n y s:Nat):n*2^s / (y*2^s)=n / y/\n*2^s%(y*2^s) / 2^s=n%y:=by
 have hp:0<2^s:=yd Q9V;refine⟨Nat.mul_div_mul_right _ _ hp,?_⟩;rw[Nat.mul_mod_mul_right,zL _ hp]
theorem join(u l d1 d0:Nat)(el:l=d1*4294967296+d0):u*18446744073709551616+l=u*h*h+d1*h+d0:=by
 subst el;show u*18446744073709551616+(d1*4294967296+d0)=u*4294967296*4294967296+d1*4294967296+d0;omega
end Go.Proofs.YtfkngpmgcimdbaaGreat.Knuth
