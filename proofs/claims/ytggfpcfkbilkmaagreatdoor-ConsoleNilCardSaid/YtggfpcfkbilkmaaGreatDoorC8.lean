/-
  console.Line: its words, and what is done with them.
-/
import Derived.Lib.SplitLaws
import Derived.Lib.CountLaws
import Derived.Lay
import Derived.Shelf.Vars
import Derived.Lib.LaidU8
import Derived.LaidMore
import Derived.SevenTiedAt
import Derived.Test.YtggfpcfkbilkmaaGreatDoorC7
set_option linter.unusedVariables false
set_option linter.unusedSimpArgs false
set_option maxRecDepth 100000
set_option maxHeartbeats 20000000
open Go.Proofs.Tryz
namespace Go.Proofs
section
variable{Z Y:Prop}
theorem Q01(k:Y)(h:Wr Y->Z:=by
 intro kQ;repeat' (refine Ba ?_;first|refine Q2R ?_|refine Q35 ?_|refine Q3F ?_|refine Be (xg e5) ?_|refine Be (xg e1) ?_|refine Bc (qev s _) ?_|refine Bc (qdp _) ?_|refine N.op (qew (L:=k) rfl rfl Q4N (by exact rfl) rfl) ?_|fail)
 refine Ba ?_;exact kQ.o):Z:=h ⟨k⟩
theorem Q02(h:Z:=by
 have st:=qdj ls k hlt;by_cases hf:full (qa5 ls k)=true
 .rw[if_pos hf] at st;refine Q14 ?_;refine AppN.mk1 (.agg ⟨[.string (qa5 ls k)]⟩) (qd2 rfl rfl) rfl (by show(qas ls k).length*1<=c;omega) (by show(qas ls k).length+1<=_;omega) (by show((qas ls k).length+1)*16<=_;omega) (rsC true c (qa5 (qas ls k++[qa5 ls k]))) (λh=>jal (show(qas ls k).length+1<=c from h) (x6 _)) (λhr=>?_) (λhg cap2 hcap2=>?_)
  .refine Q11 ?_;refine Bk (α:=Nat×Option Nat) (k+1,some c) [(0,0),(1,1),(2,2),(3,3),(4,4)] ⟨⟨by show k+1<=_;omega,by show 1<=(qas ls (k+1)).length/\(qas ls (k+1)).length<=c;rw[st,xR];exact⟨by show 1<=_+1;omega,hr⟩⟩,by show ls.length-(k+1)<ls.length-k;omega⟩ ?_;rw[st];repeat' (refine Ba ?_;first|exact Bd|refine Q2X ?_|refine Bb (reS Q5A) ?_|refine Q3G ?_|refine Bb qix ?_|refine Q36 ?_|fail)
  .refine Q11 ?_;refine Bk (α:=Nat×Option Nat) (k+1,some cap2) [(0,0),(1,1),(2,2),(3,3),(6,4)] ⟨⟨by show k+1<=_;omega,by show 1<=(qas ls (k+1)).length/\(qas ls (k+1)).length<=cap2;rw[st,xR];exact⟨by show 1<=_+1;omega,hcap2⟩⟩,by show ls.length-(k+1)<ls.length-k;omega⟩ ?_;rw[st];repeat' (refine Ba ?_;first|exact Bd|refine Q2X ?_|refine Bb (q79 rfl rfl (λj hj=>qd4 Q4L) hcap2) ?_|refine Bb (jbw Q5A) ?_|refine Q3G ?_|refine Q36 ?_|fail)
 .rw[if_neg hf] at st;refine Q13 ?_;refine Bk (α:=Nat×Option Nat) (k+1,some c) [(0,0),(1,1),(2,2),(3,3),(4,4)] ⟨⟨by show k+1<=_;omega,by show 1<=(qas ls (k+1)).length/\(qas ls (k+1)).length<=c;rw[st];exact⟨hy1,hy2⟩⟩,by show ls.length-(k+1)<ls.length-k;omega⟩ ?_;rw[st];exact Q15):Z:=h
theorem Q05(h:Z:=by
 have hy:qas ls k=[]:=hy;by_cases hlt:k<ls.length
 .have st:=qdj ls k hlt;by_cases hf:full (qa5 ls k)=true
  .rw[if_pos hf,hy] at st;refine Q14 ?_;refine App0N.mk1 (.agg ⟨[.string (qa5 ls k)]⟩) (qd2 rfl rfl) Q4P Q4P Q4P λcap hcap=>?_
   refine Q11 ?_;refine Bk (α:=Nat×Option Nat) (k+1,some cap) [(0,0),(1,1),(2,2),(3,3),(5,4)] ⟨⟨by show k+1<=_;omega,by show 1<=(qas ls (k+1)).length/\(qas ls (k+1)).length<=cap;rw[st];exact⟨nlr _,hcap⟩⟩,by show ls.length-(k+1)<ls.length-k;omega⟩ ?_;rw[st];repeat' (refine Ba ?_;first|exact Bd|refine Q2X ?_|refine Bb (q79 rfl rfl (nzj) hcap) ?_|refine Q3G ?_|refine Q36 ?_|fail)
  .rw[if_neg hf,hy] at st;refine Q13 ?_;refine Bk (α:=Nat×Option Nat) (k+1,none) [(0,0),(1,1),(2,2),(3,3)] ⟨⟨by show k+1<=_;omega,st⟩,by show ls.length-(k+1)<ls.length-k;omega⟩ ?_;exact Q15
 .exfalso;obtain rfl:k=ls.length:=by omega
  rw[qd5,hws] at hy;cases hy):Z:=h
theorem Q0a(h:Z:=by
 repeat' (refine Ba ?_;first|refine Q2T ?_|refine Q2V ?_|refine Bf (beq_eq_false_iff_ne.2 (by show((wr.length+1:Nat):Int)≠1;omega)) ?_|fail)
 refine Ba ?_;refine N.altP ?_;refine Ba ?_;refine Bp [0,1,2,3,4,5,6,7] [(8,[9])] Q4Q ?_;repeat' (refine Ba ?_;first|refine Q2R ?_|refine Bi 0 1 rfl (by show 0<wr.length+1;omega) ?_|refine Bl _ (q60 (j:=0) Q4L rfl) ?_|refine N.bndT 1 (wr.length+1) 1 rfl ⟨rfl,by omega⟩ ?_|fail)
 refine Ba ?_;refine qbq [0,1,2,4,5] _ Q4Z (λh₂ hh=>hrun 0 1 2 4 5 c false h₂ Q4P hy2 Q4e Q4z ((hh 2 Q4X).trans rfl) ((hh 4 Q4X).trans rfl) ((hh 5 Q4X).trans (by rw[<-qtg c Q4L];rfl))) λv ms hR=>?_
 obtain⟨V,D',F',wd,hP,rfl,rfl⟩:=hR;refine⟨by simp,?_⟩;repeat' (refine Ba ?_;first|refine Q2T ?_|refine Q2V ?_|refine Q3h ?_|fail)
 refine Ba ?_;refine Bh ?_;refine Bj (V,D',F') ⟨hP,?_⟩;refine Bb (.plain rfl) ?_;refine Bb ⟨Q3T,Q3T,xb⟩ ?_;refine Bb xb ?_;refine Bb Q42 ?_;exact Bd):Z:=h
theorem Q0B(h:Z:=by
 refine qam key λv ms hR=>?_
 obtain⟨κ,hκ,rfl,rfl⟩:=hR;exact⟨rfl,rfl⟩):Z:=h
theorem Q0K(h:Z:=by
 refine Bg (qpb W hW [] 0 _ Q4N) λv ms hR=>?_
 obtain⟨F',_,rfl,rfl⟩:=hR;repeat' (refine Ba ?_;first|refine Q2R ?_|exact N.mk ⟨rfl,F',rfl⟩|fail)):Z:=h
theorem Q0P(k:Y)(h:Wr Y->Z:=by
 intro kQ;repeat' (refine Ba ?_;first|refine Q2R ?_|refine Q3a ?_|refine Q3g ?_|fail)
 refine Ba ?_;exact kQ.o):Z:=h ⟨k⟩
theorem Q0Q(h:Z:=by repeat' (refine Ba ?_;first|exact Bd|refine Q2X ?_|refine Q36 ?_|fail)):Z:=h
theorem Q0T(h:Z:=by
 refine Ba ?_;refine Bh ?_;refine Bj () ⟨xb,?_⟩;refine Bb (.plain rfl) ?_;refine Bb ⟨Q3T,Q3T,xb⟩ ?_;refine Bb xb ?_;refine Bb Q42 ?_;exact Bd):Z:=h
theorem Q12(h:Z:=by
 obtain⟨rfl,rfl⟩:=hR;refine Q01 ?_;refine Bg (qo9 W hW [] (ftF g) 2 3 0 Q4P _ Q4N Q4N Q4N) λv ms hR=>?_
 obtain⟨rfl,rfl⟩:=hR;refine Q01 ?_;refine Bg (qo8 W hW [] (ftF g) hE 2 3 0 Q4P _ Q4N Q4N Q4N) λv ms hR=>?_
 obtain⟨rfl,rfl⟩:=hR;refine Q01 ?_;refine Bg (qmf W hW [] (ftF g) (show 0<5 by decide) (show 5<=9 by decide) 2 3 0 Q4P _ Q4N Q4N Q4N) λv ms hR=>?_
 obtain⟨rfl,rfl⟩:=hR;refine Q01 ?_;exact Q0K):Z:=h
theorem Q13(k:Y)(h:Wr Y->Z:=by
 intro kQ;repeat' (refine Ba ?_;first|refine Q2R ?_|refine Q3g ?_|refine Q3A ?_|refine Bf (by simpa using hf) ?_|fail)
 refine Ba ?_;exact kQ.o):Z:=h ⟨k⟩
theorem Q14(k:Y)(h:Wr Y->Z:=by
 intro kQ;repeat' (refine Ba ?_;first|refine Q2R ?_|refine Q3g ?_|refine Q3A ?_|refine Be hf ?_|fail)
 refine Ba ?_;exact kQ.o):Z:=h ⟨k⟩
theorem Q15(h:Z:=by repeat' (refine Ba ?_;first|exact Bd|refine Q2X ?_|refine Q3G ?_|refine Bb qix ?_|refine Q36 ?_|fail)):Z:=h
theorem Q1d(h:Z:=by
 repeat' (refine Ba ?_;first|refine Q2R ?_|fail)
 all_goals rfl):Z:=h
theorem Q1h(h:Z:=by repeat (refine Ba ?_;first|exact Bd|refine Q2X ?_|refine Q3k ?_|refine Bb qxx ?_|with_reducible refine Bb True.intro ?_|refine Q3H ?_)):Z:=h
theorem Q1u(h:Z:=by
 obtain⟨rfl,rfl⟩:=hR;exact⟨_,_,_,_,⟨rfl,rfl,rfl⟩,rfl,rfl⟩):Z:=h
theorem Q1v(h:Z:=by
 obtain⟨V,D',F',⟨rfl,rfl,rfl⟩,rfl,rfl⟩:=hR;exact⟨rfl,rfl⟩):Z:=h
theorem Q36(k:Y)(h:Wr Y->Z:=by intro kQ;(first|refine Bb (qcm rfl) ?_|refine Bb ⟨id,nlr _,lt2 Q56 (.plain rfl)⟩ ?_|refine Bb ⟨id,nlr _,nzj⟩ ?_|refine Bb (.plain rfl) ?_|refine Bb (.one (.ptr rfl)) ?_|refine Bb (.one (.slice rfl)) ?_|fail);exact kQ.o):Z:=h ⟨k⟩
theorem Q3b(k:Y)(h:Wr Y->Z:=by intro kQ;(first|refine Bn _ (qbe _ _ _ _) ?_|refine Be (xg e0) ?_|refine Be (xg e1) ?_|refine Be (xg e3) ?_|fail);exact kQ.o):Z:=h ⟨k⟩
theorem Q3u(k:Y)(h:Wr Y->Z:=by intro kQ;(first|refine Bc (jaj W hW F S cap 2 p 0 c hp (xr _) (q:Int) ⟨by omega,by omega⟩ hS 1 3 Q4P Q4P Q4P false _ Q4N Q4N Q4N) ?_|refine Bc (q61 S cap 2 _ 0 c false 1 false _ Q4N Q4N) ?_|fail);exact kQ.o):Z:=h ⟨k⟩
theorem Q3A(k:Y)(h:Wr Y->Z:=by intro kQ;(first|refine Bi k 1 rfl Q4L ?_|refine Bl _ (qfx rfl Q4L Q4L) ?_|refine Bn _ (qcv _ _ _) ?_|fail);exact kQ.o):Z:=h ⟨k⟩
theorem Q3F(k:Y)(h:Wr Y->Z:=by intro kQ;(first|refine Bn _ (qbe _ _ _ _) ?_|fail);exact kQ.o):Z:=h ⟨k⟩
theorem Q3G(k:Y)(h:Wr Y->Z:=by intro kQ;(first|refine Bb (reI (by rw[IntWalk.i64_in _ Q4L];rfl)) ?_|fail);exact kQ.o):Z:=h ⟨k⟩
theorem Q3K(k:Y)(h:Wr Y->Z:=by intro kQ;(first|refine Bc (qnf W hW F s ls Q4L h1 h2 2 3 _ Q4N Q4N) ?_|fail);exact kQ.o):Z:=h ⟨k⟩
theorem Q3M(k:Y)(h:Wr Y->Z:=by intro kQ;(first|refine Bl _ (q60 (j:=0) Q4L rfl) ?_|refine Bc (hask 0 1 2 false _ Q4P Q4N Q4N Q4N) ?_|fail);exact kQ.o):Z:=h ⟨k⟩
theorem Q42(h:Z:=by first|exact ⟨⟨.inl rfl,.inr ⟨_,rfl,rfl⟩,.inr ⟨_,rfl,rfl⟩,xb⟩,xb⟩|fail):Z:=h
theorem Q44(h:Z:=by first|exact ⟨.inl rfl,.inr ⟨rfl,rfl⟩,.inr ⟨rfl,rfl⟩,xb⟩|fail):Z:=h
theorem Q4g(h:Z:=by first|exact ⟨.ptr rfl,.plain rfl,.ptr rfl,xb⟩|fail):Z:=h
theorem Q4x(h:Z:=by first|exact λκ _=>⟨Q3Q,Q3R,Q3R,xb⟩|fail):Z:=h
theorem Q54(h:Z:=by simp[Apart,n01,n02,n03,n04,n12,n13,n14,n23,n24,n34]):Z:=h
theorem Q57(h:Z:=by rw[ok.n];decide):Z:=h
theorem Q5h(h:Z:=by show q2z (0);exact⟨by decide,by decide⟩):Z:=h
theorem Q5v(h:Z:=by simp[Apart,n01,n02,n12]):Z:=h
theorem Q5C(h:Z:=by show qa5 [_,_] 1=q20 _;decide +kernel):Z:=h
theorem Q5O(h:Z:=by simp[hj,hm]):Z:=h
theorem Q5U(h:Z:=by show q2z (100);exact⟨by decide,by decide⟩):Z:=h
end
end Go.Proofs

namespace Go.Proofs.YtggfpcfkbilkmaaGreatDoor
open Go Go.RowKit Sx
def full(b:ByteArray):Bool:=b.size != 0
def qas(ls:List ByteArray)(j:Nat):List ByteArray:=(ls.take j).filter full
def qa5(l:List ByteArray)(p:Nat):ByteArray:=l.getD p ⟨#[]⟩
theorem qd5(ls:List ByteArray):qas ls ls.length=ls.filter full:=by unfold qas;rw[List.take_length]
theorem qdj(ls:List ByteArray)(j:Nat)(hj:j<ls.length):qas ls (j+1)=if full (qa5 ls j) then qas ls j++[qa5 ls j] else qas ls j:=by
 unfold qas qa5;rw[List.take_add_one,List.filter_append,xH,xp hj];simp only[yr,Option.toList_some,List.filter_cons,List.filter_nil];split<;>simp
variable{ix:Lz}
theorem reI{k:IntKind}{a b:Int}(h:a=b):Re ix (.int k a) (.int k b):=by subst h;exact .plain rfl
theorem reS{r:Lz}{s s' a b c:Nat}(h:a=b):Re ((0,0)::(1,1)::(2,2)::(3,3)::(4,4)::r) (.slice (some ⟨4,0,some s⟩) a c) (.slice (some ⟨4,0,some s'⟩) b c):=by subst h;exact .one (.slice rfl)
theorem jbw{r:Lz}{s s' a b c:Nat}(h:a=b):Re ((0,0)::(1,1)::(2,2)::(3,3)::(6,4)::r) (.slice (some ⟨4,0,some s⟩) a c) (.slice (some ⟨6,0,some s'⟩) b c):=by subst h;exact .one (.slice rfl)
theorem qtg(c:Nat)(hc:1<=c):0+(if c=1 then 0 else 1*1)=nxt 0 (c-1):=by
 match c,hc with
 | 1,_=>rfl
 | n+2,_=>rw[if_neg Q4L];rfl
theorem qiw(l:List ByteArray)(x:ByteArray)(j:Nat):qa5 (l++[x]) j=if j=l.length then x else qa5 l j:=by
 unfold qa5;rw[xH,xH,List.getElem?_append];by_cases h:j<l.length
 .rw[if_pos h,if_neg Q4L]
 .rw[if_neg h];by_cases e:j=l.length
  .subst e;simp
  .rw[if_neg e,yA Q5o,yA Q4L]
theorem qpz(l:List ByteArray)(j:Nat)(h:l.length<=j):qa5 l j=⟨#[]⟩:=by
 unfold qa5;rw[xH,yA h];rfl
variable{l:List ByteArray}{x:ByteArray}
theorem jal{cap p:Nat}(h:l.length<cap)(hp:p=l.length):Writes (rsC true cap (qa5 l)) p 1 (.agg ⟨[.string x]⟩) (rsC true cap (qa5 (l++[x]))):=by
 subst hp;refine⟨rfl,h,rfl,λj hj=>?_⟩;have hj:j<cap:=hj;rw[qd4 hj,qd4 hj,qiw];by_cases e:j=l.length
 .rw[if_pos e,if_pos Q4L,e,yO];rfl
 .rw[if_neg e,if_neg Q4L]
theorem q79{ci:Chunk}{cap k:Nat}{z:Value}(hk:k=l.length)(hz:z=.string ⟨#[]⟩)(hc:∀j,j<l.length->ci.f j=.string (qa5 l j))(h:l.length+1<=cap):ChunkReLe ix (rsC true cap (qa5 (l++[x]))) (grown ci k 1 1 (.agg ⟨[.string x]⟩) z cap):=by
 subst hz hk;refine⟨λ_=>rfl,by show cap<=cap*1;omega,λj hj=>?_⟩;have hj:j<cap:=hj;have e:(grown ci l.length 1 1 (.agg ⟨[.string x]⟩) (.string ⟨#[]⟩) cap).f j=(rsC true cap (qa5 (l++[x]))).f j:=by
  rw[qd4 hj,qiw];by_cases h1:j<l.length
  .rw[qdq Q4L,hc j h1,if_neg Q4L]
  .by_cases h2:j=l.length
   .have:=qdr (ci:=ci) (l:=l.length) (m:=1) (size:=1) (cap:=cap) (v:=.agg ⟨[.string x]⟩) (z:=.string ⟨#[]⟩) (j:=0) Q4L;rw[show l.length*1+0=j by omega] at this;rw[this,if_pos h2];rfl
   .rw[qcx Q4L Q4L,if_neg h2,qpz _ _ Q4L];unfold repZ;rw[yH];rfl
 rw[e,qd4 hj];exact .plain rfl
theorem qix{cap:Nat}{S:Nat->ByteArray}:ChunkReLe ix (rsC true cap S) (rsC true cap S):=
 ⟨id,nlr _,λj hj=>q6z j hj⟩
variable{ls:List ByteArray}
theorem qcm{n:Nat}(hn:n=ls.length):ChunkReLe ix ⟨true,n,[(0,n,.agg ⟨ls.map .string⟩)]⟩ ⟨true,n,[(0,n,.agg ⟨ls.map .string⟩)]⟩:=
 ⟨id,nlr _,λj hj=>.plain (by
  have hj:j<n:=hj;show qa4 (qa0 _ _)=true;rw[qai,if_pos Q4L];simp only[cellIn,xH];rw[xQ,xp Q4L];rfl)⟩
theorem qfx{n j p:Nat}(hn:n=ls.length)(h:j<n)(hp:p=j):Reads ⟨true,n,[(0,n,.agg ⟨ls.map .string⟩)]⟩ p false 1 (.string (qa5 ls j)):=by
 subst hp;refine⟨h,rfl,?_⟩;refine Q1b ?_;simp only[cellIn,xH,qa5];rw[show p-0=p from rfl,xQ,xp Q4L];rfl
theorem qcv(x y:Operand)(b:ByteArray):BinIs prog .neq 9 x y (.string b) (.string ⟨#[]⟩) (.bool (full b)):=by
 have:=q0a x y b ⟨#[]⟩;have e:(!decide (b=⟨#[]⟩))=full b:=by
  unfold full;by_cases h:b=⟨#[]⟩
  .subst h;rfl
  .rw[xl h];have:b.size≠0:=λh0=>h (ByteArray.ext (Array.eq_empty_of_size_eq_zero h0))
   simp[this]
 rwa[e] at this
theorem qo7(ls:List ByteArray)(j:Nat):(qas ls j).length<=j:=by
 unfold qas;exact xI (List.length_filter_le _ _) (by rw[List.length_take];omega)
theorem qmd(W:World)(hW:TxOK W)(F:List By)(D:FS)(s:ByteArray)(ls:List ByteArray)(hs:s.size<=2500)(hl:ls.length<=2501)(h1:Lib.countB s ⟨#[32]⟩+1=ls.length)(h2:Lib.splitB ⟨#[32]⟩ 0 (Lib.countB s ⟨#[32]⟩) s=ls)(wa:ByteArray)(wr:List ByteArray)(hws:ls.filter full=wa::wr)(t:ByteArray)(b:Bool)(hb:¬ (b=true/\wr=[]))
  (hask:∀(a j m:Nat)(o:Bool)(h:Hp),[a,j,m].Nodup->h[a]?=some (some (cnC o j))->h[j]?=some (some (flP D))->h[m]?=some (some (q2q W F))->qae prog 15 [xd a,.string wa] h (.tuple #[.string t,.bool b]) [] [a,j,m])
  (P:ByteArray->FS->List By->Prop)
  (hrun:∀(a j m k l cap:Nat)(o:Bool)(h:Hp),[a,j,m,k,l].Nodup->wr.length+1<=cap->h[a]?=some (some (cnC o j))->h[j]?=some (some (flP D))->h[m]?=some (some (q2q W F))->h[k]?=some (some (rsC true cap (qa5 (wa::wr))))->h[l]?=some (some (wdC true k (nxt 0 (cap-1)) wr.length (cap-1) false))->
   CallAll prog 16 [xd a,.string wa,xd l] h λv ms=>∃V D' F' wd,P V D' F'/\v=.string V/\ms=[(l,wd),(j,flP D'),(m,q2q W F')])
  (a j m:Nat) (hne:[a,j,m].Nodup) (h:Hp) (ha:h[a]?=some (some (cnC true j))) (hj:h[j]?=some (some (flP D))) (hm:h[m]?=some (some (q2q W F))) :
  CallAll prog 7 [xd a,.string s] h λv ms=>∃V D' F',P V D' F'/\v=.string V/\ms=[(j,flP D'),(m,q2q W F')]:=by
 simp only[xx,xf,xw,or_false,not_or,xD,and_true,xu] at hne
 have key:=qar (G:=tys) (h:=h) (vs:=[xd a,.string s]) (λ_:Unit=>True) (λ_=>_) (α:=ByteArray×FS×List By) (λκ=>P κ.1 κ.2.1 κ.2.2) (λκ=>.string κ.1) [⟨a,cnC true j,cnC false 1,⟨false,0,[]⟩⟩,⟨j,flP D,flP D,flP D⟩,⟨m,q2q W F,q2q W F,q2q W F⟩] (λκ=>[⟨false,0,[]⟩,flP κ.2.1,q2q W κ.2.2]) (λκ=>[]) [xd 0,.string s] tysOK q2p func7 Q4N (call7) ⟨ha,hj,hm,xb⟩ ⟨Q3Q,Q3R,Q3R,xb⟩ Q4x Q5B Q44 (λκ _=>trivial) Q3Y Opens.same ?_
 .refine qam key λv ms hR=>?_
  obtain⟨κ,hκ,rfl,rfl⟩:=hR;exact⟨κ.1,κ.2.1,κ.2.2,hκ,rfl,rfl⟩
 rintro⟨⟩ -
 repeat' (refine Ba ?_;first|refine Q2R ?_|refine N.lenS rfl ?_|refine Q3a ?_|refine Q3K ?_|fail)
 refine Ba ?_
 refine Bo (α:=Nat×Option Nat) (λx=>x.1<=ls.length/\match x.2 with
  | none=>qas ls x.1=[]
  | some c=>1<=(qas ls x.1).length/\(qas ls x.1).length<=c) (λx=>ls.length-x.1) (λx=>match x.2 with
  | none=>[(19,.int .i64 (x.1:Int)),(5,.slice none 0 0)]
  | some c=>[(19,.int .i64 (x.1:Int)),(5,.slice (some ⟨4,0,some 0⟩) (qas ls x.1).length c)]) (λx=>match x.2 with
  | none=>[]
  | some c=>[(4,rsC true c (qa5 (qas ls x.1)))]) (0,none) [(0,0),(1,1),(2,2),(3,3)] ⟨xr _,rfl⟩ ?_ ?_
 .exact Q0Q
 rintro⟨k,y⟩ ⟨hk,hy⟩
 have hk:k<=ls.length:=hk
 have wl:=qo7 ls k
 cases y with
 | none=>
  exact Q05
 | some c=>
  obtain⟨hy1,hy2⟩:=hy;have hy1:1<=(qas ls k).length:=hy1;have hy2:(qas ls k).length<=c:=hy2;by_cases hlt:k<ls.length
  .exact Q02
  .obtain rfl:k=ls.length:=by omega
   rw[qd5,hws] at hy1 hy2 ⊢;have hy2:wr.length+1<=c:=hy2;repeat' (refine Ba ?_;first|refine Q2R ?_|refine Q3a ?_|refine Bf (beq_eq_false_iff_ne.2 (by show((wr.length+1:Nat):Int)≠0;omega)) ?_|refine Bi 0 1 rfl (by show 0<wr.length+1;omega) ?_|refine Q3M ?_|fail)
   have ht:∀(x:ByteArray)(y:Bool),x=t->True:=λ_ _ _=>trivial
   cases hbb:b with
   | true=>
    have hwr:wr≠[]:=λh=>hb ⟨hbb,h⟩
    have hwl:0<wr.length:=List.length_pos_iff.2 hwr;exact Q0a
   | false=>
    exact Q0a
theorem qxv(W:World)(hW:TxOK W)(F:List By)(D:FS)(s:ByteArray)(ls:List ByteArray)(hs:s.size<=2500)(hl:ls.length<=2501)(h1:Lib.countB s ⟨#[32]⟩+1=ls.length)(h2:Lib.splitB ⟨#[32]⟩ 0 (Lib.countB s ⟨#[32]⟩) s=ls)(wa:ByteArray)(hws:ls.filter full=[wa])(t:ByteArray)
  (hask:∀(a j m:Nat)(o:Bool)(h:Hp),[a,j,m].Nodup->h[a]?=some (some (cnC o j))->h[j]?=some (some (flP D))->h[m]?=some (some (q2q W F))->qae prog 15 [xd a,.string wa] h (.tuple #[.string t,.bool true]) [] [a,j,m])
  (a j m:Nat) (hne:[a,j,m].Nodup) (h:Hp) (ha:h[a]?=some (some (cnC true j))) (hj:h[j]?=some (some (flP D))) (hm:h[m]?=some (some (q2q W F))) :
  CallAll prog 7 [xd a,.string s] h λv ms=>v=.string t/\ms=[(j,flP D),(m,q2q W F)]:=by
 simp only[xx,xf,xw,or_false,not_or,xD,and_true,xu] at hne
 have key:=qar (G:=tys) (h:=h) (vs:=[xd a,.string s]) (λ_:Unit=>True) (λ_=>_) (α:=Unit) (λκ=>True) (λκ=>.string t) [⟨a,cnC true j,cnC false 1,⟨false,0,[]⟩⟩,⟨j,flP D,flP D,flP D⟩,⟨m,q2q W F,q2q W F,q2q W F⟩] (λκ=>[⟨false,0,[]⟩,flP D,q2q W F]) (λκ=>[]) [xd 0,.string s] tysOK q2p func7 Q4N (call7) ⟨ha,hj,hm,xb⟩ ⟨Q3Q,Q3R,Q3R,xb⟩ Q4x Q5B Q44 (λκ _=>trivial) Q3Y Opens.same ?_
 .exact Q0B
 rintro⟨⟩ -
 repeat' (refine Ba ?_;first|refine Q2R ?_|refine N.lenS rfl ?_|refine Q3a ?_|refine Q3K ?_|fail)
 refine Ba ?_
 refine Bo (α:=Nat×Option Nat) (λx=>x.1<=ls.length/\match x.2 with
  | none=>qas ls x.1=[]
  | some c=>1<=(qas ls x.1).length/\(qas ls x.1).length<=c) (λx=>ls.length-x.1) (λx=>match x.2 with
  | none=>[(19,.int .i64 (x.1:Int)),(5,.slice none 0 0)]
  | some c=>[(19,.int .i64 (x.1:Int)),(5,.slice (some ⟨4,0,some 0⟩) (qas ls x.1).length c)]) (λx=>match x.2 with
  | none=>[]
  | some c=>[(4,rsC true c (qa5 (qas ls x.1)))]) (0,none) [(0,0),(1,1),(2,2),(3,3)] ⟨xr _,rfl⟩ ?_ ?_
 .exact Q0Q
 rintro⟨k,y⟩ ⟨hk,hy⟩
 have hk:k<=ls.length:=hk
 have wl:=qo7 ls k
 cases y with
 | none=>
  exact Q05
 | some c=>
  obtain⟨hy1,hy2⟩:=hy;have hy1:1<=(qas ls k).length:=hy1;have hy2:(qas ls k).length<=c:=hy2;by_cases hlt:k<ls.length
  .exact Q02
  .obtain rfl:k=ls.length:=by omega
   rw[qd5,hws] at hy1 hy2 ⊢;have hy2:0+1<=c:=hy2;repeat' (refine Ba ?_;first|refine Q2R ?_|refine Q3a ?_|refine Bf (beq_eq_false_iff_ne.2 (by show((0+1:Nat):Int)≠0;omega)) ?_|refine Bi 0 1 rfl (by show 0<0+1;omega) ?_|refine Q3M ?_|refine Be (by show(((0+1:Nat):Int)==1)=true;rfl) ?_|fail)
   exact Q0T
theorem qxw(W:World)(hW:TxOK W)(F:List By)(D:FS)(s:ByteArray)(ls:List ByteArray)(hs:s.size<=2500)(hl:ls.length<=2501)(h1:Lib.countB s ⟨#[32]⟩+1=ls.length)(h2:Lib.splitB ⟨#[32]⟩ 0 (Lib.countB s ⟨#[32]⟩) s=ls)(hws:ls.filter full=[])(a j m:Nat)(hne:[a,j,m].Nodup)(h:Hp)(ha:h[a]?=some (some (cnC true j)))(hj:h[j]?=some (some (flP D)))(hm:h[m]?=some (some (q2q W F))):
  CallAll prog 7 [xd a,.string s] h λv ms=>v=.string ⟨#[]⟩/\ms=[(j,flP D),(m,q2q W F)]:=by
 simp only[xx,xf,xw,or_false,not_or,xD,and_true,xu] at hne
 have key:=qar (G:=tys) (h:=h) (vs:=[xd a,.string s]) (λ_:Unit=>True) (λ_=>_) (α:=Unit) (λκ=>True) (λκ=>.string ⟨#[]⟩) [⟨a,cnC true j,cnC false 1,⟨false,0,[]⟩⟩,⟨j,flP D,flP D,flP D⟩,⟨m,q2q W F,q2q W F,q2q W F⟩] (λκ=>[⟨false,0,[]⟩,flP D,q2q W F]) (λκ=>[]) [xd 0,.string s] tysOK q2p func7 Q4N (call7) ⟨ha,hj,hm,xb⟩ ⟨Q3Q,Q3R,Q3R,xb⟩ Q4x Q5B Q44 (λκ _=>trivial) Q3Y Opens.same ?_
 .exact Q0B
 rintro⟨⟩ -
 repeat' (refine Ba ?_;first|refine Q2R ?_|refine N.lenS rfl ?_|refine Q3a ?_|refine Q3K ?_|fail)
 refine Ba ?_
 have hno:∀k,k<ls.length->full (qa5 ls k)=false:=λk hk=>by
  have hm:qa5 ls k∈ls:=by
   unfold qa5;rw[xH,xp hk];exact List.getElem_mem hk
  cases hf:full (qa5 ls k) with
  | false=>rfl
  | true=>
   have:=List.mem_filter.2 ⟨hm,hf⟩;rw[hws] at this;cases this
 refine Br (α:=Nat) (λk=>k<=ls.length) (λk=>ls.length-k) (λk=>[(19,xc (k:Int)),(5,.slice none 0 0)]) (λk=>[]) 0 (xr _) ?_ ?_
 .repeat (refine Ba ?_;first|exact Bd|refine Q2X ?_|refine Q3k ?_|with_reducible refine Bb True.intro ?_)
 intro k hk
 by_cases hlt:k<ls.length
 .repeat' (refine Ba ?_;first|refine Q2R ?_|refine Q3g ?_|refine Q3A ?_|refine Bf (hno k hlt) ?_|fail)
  refine Ba ?_;refine N.next (k+1) ⟨by omega,by omega⟩ ?_;repeat (refine Ba ?_;first|exact Bd|refine Q2X ?_|refine Q3k ?_|with_reducible refine Bb True.intro ?_|refine Q3H ?_)
 .obtain rfl:k=ls.length:=by omega
  repeat' (refine Ba ?_;first|refine Q2R ?_|refine Q3a ?_|refine Q35 ?_|fail)
  exact Q0T
theorem q2f(W:World)(hW:TxOK W)(F:List By)(D:FS)(s:ByteArray)(hs:2500<s.size)(a j m:Nat)(hne:[a,j,m].Nodup)(h:Hp)(ha:h[a]?=some (some (cnC true j)))(hj:h[j]?=some (some (flP D)))(hm:h[m]?=some (some (q2q W F))):
  CallAll prog 7 [xd a,.string s] h λv ms=>v=.string (q4j 5)/\ms=[(j,flP D),(m,q2q W F)]:=by
 simp only[xx,xf,xw,or_false,not_or,xD,and_true,xu] at hne
 have key:=qar (G:=tys) (h:=h) (vs:=[xd a,.string s]) (λ_:Unit=>True) (λ_=>_) (α:=Unit) (λκ=>True) (λκ=>.string (q4j 5)) [⟨a,cnC true j,cnC false 1,⟨false,0,[]⟩⟩,⟨j,flP D,flP D,flP D⟩,⟨m,q2q W F,q2q W F,q2q W F⟩] (λκ=>[⟨false,0,[]⟩,flP D,q2q W F]) (λκ=>[]) [xd 0,.string s] tysOK q2p func7 Q4N (call7) ⟨ha,hj,hm,xb⟩ ⟨Q3Q,Q3R,Q3R,xb⟩ Q4x Q5B Q44 (λκ _=>trivial) Q3Y Opens.same ?_
 .exact Q0B
 rintro⟨⟩ -
 repeat' (refine Ba ?_;first|refine Q2R ?_|refine N.lenS rfl ?_|refine Q3g ?_|refine Bc (qng W hW F 5 Q4P 2 _ Q4N) ?_|fail)
 refine Ba ?_
 refine Bh ?_
 refine Bj () ⟨xb,?_⟩
 refine Bb (.plain rfl) ?_
 refine Bb ⟨Q3T,Q3T,xb⟩ ?_
 refine Bb xb ?_
 refine Bb Q42 ?_
 exact Bd
theorem qth(s:ByteArray)(w:World):xa 7 #[.pointer none,.string s] w (.string ⟨#[]⟩):=by
 refine qah (G:=tys) w tysOK q2p func7 Q4N Q4N Q4N ?_;exact Q1d
theorem qev(s:ByteArray)(h:Hp):qae prog 7 [.pointer none,.string s] h (.string ⟨#[]⟩) [] []:=qan rfl rfl (call7 _) (qth s)
theorem qwd(F:FS)(m:Nat)(hm:m<F.n)(i:Nat)(h:Hp)(hi:h[i]?=some (some (flP F))):
  CallAll prog 62 [xd i,xc (m:Int)] h λv ms=>v=.tuple #[.agg #[xc (F.P (m*2)),xc (F.P (m*2+1))],.bool true]/\ms=[(i,flP F)]:=by
 have key:=qar (G:=tys) (h:=h) (vs:=[xd i,.int .i64 (m:Int)]) (q33 F) (flH F) (α:=Unit) (λκ=>True) (λκ=>.tuple #[.agg #[.int .i64 (F.P (m*2)),.int .i64 (F.P (m*2+1))],.bool true]) [⟨i,flP F,flP F,flP F⟩] (λκ=>[flP F]) (λκ=>[]) [xd 0,.int .i64 (m:Int)] tysOK q2p func62 Q4N (call62) ⟨hi,xb⟩ ⟨Q3R,xb⟩ Q4t Q51 Q41 (λκ _=>trivial) Q3Y qa9 ?_
 .exact Q1n
 intro β hβ
 repeat' (refine Ba ?_;first|refine Q2R ?_|refine Bc (qj2 F.C F.n β.1 1 2 3 F.P F.M F.tm F.st true true true m _ Q4N Q4N Q4N hm) ?_|fail)
 refine Ba ?_
 refine qgf F β Q4L hβ rfl ⟨_,rfl,qh2 F,qao⟩ Q4h (λρ ρ' _=>by simp[den,den2,den1,den0,q24]) ?_
 refine Bj () ⟨xb,?_⟩
 refine Bb (.plain rfl) ?_
 refine Bb ⟨Q3T,xb⟩ ?_
 refine Bb xb ?_
 refine Bb Q45 ?_
 exact Bd
theorem qti(F:FS)(m:Nat)(hm:m<F.n)(i:Nat)(h:Hp)(hi:h[i]?=some (some (flP F))):qae prog 62 [xd i,xc (m:Int)] h (.tuple #[.agg #[xc (F.P (m*2)),xc (F.P (m*2+1))],.bool true]) [(i,flP F)] []:=
 qej λh₂ _ h2=>qwd F m hm i h₂ ((h2 _ (yo ..)).trans hi)
theorem jam(F:FS)(m:Nat)(hm:m<F.n)(i:Nat)(h:Hp)(hi:h[i]?=some (some (flP F))):
  CallAll prog 65 [xd i,xc (m:Int)] h λv ms=>v=.bool (F.on m)/\ms=[(i,flP F)]:=by
 have key:=qar (G:=tys) (h:=h) (vs:=[xd i,.int .i64 (m:Int)]) (q33 F) (flH F) (α:=Unit) (λκ=>True) (λκ=>.bool (F.on m)) [⟨i,flP F,flP F,flP F⟩] (λκ=>[flP F]) (λκ=>[]) [xd 0,.int .i64 (m:Int)] tysOK q2p func65 Q4N (call65) ⟨hi,xb⟩ ⟨Q3R,xb⟩ Q4t Q51 Q41 (λκ _=>trivial) Q3Y qa9 ?_
 .exact Q1n
 intro β hβ
 repeat' (refine Ba ?_;first|refine Q2R ?_|refine Bc (qxr F.C F.n β.2 1 6 4 0 5 m F.lost hm (λ_=>.bool true) _ Q4N ⟨_,rfl⟩ ⟨_,rfl⟩ ⟨_,rfl⟩ ⟨_,rfl⟩ Q4P) ?_|refine Bi m 1 rfl hm ?_|refine Bl _ (q6v hm) ?_|fail)
 refine Ba ?_
 refine qgf F β Q4L hβ rfl ⟨_,rfl,qh2 F,qao⟩ Q4h (λρ ρ' _=>by simp[den,den2,den1,den0,q24]) ?_
 refine Bj () ⟨xb,?_⟩
 refine Bb (.plain rfl) ?_
 refine Bb ⟨Q3T,xb⟩ ?_
 refine Bb xb ?_
 refine Bb Q45 ?_
 exact Bd
theorem q2g(F:FS)(m:Nat)(hm:m<F.n)(i:Nat)(h:Hp)(hi:h[i]?=some (some (flP F))):qae prog 65 [xd i,xc (m:Int)] h (.bool (F.on m)) [(i,flP F)] []:=
 qej λh₂ _ h2=>jam F m hm i h₂ ((h2 _ (yo ..)).trans hi)
theorem qdw(F:FS)(m:Nat)(hm:m<F.n)(x:Int)(hx:x=(m:Int))(i:Nat)(h:Hp)(hi:h[i]?=some (some (flP F))):qae prog 62 [xd i,xc x] h (.tuple #[.agg #[xc (F.P (m*2)),xc (F.P (m*2+1))],.bool true]) [(i,flP F)] []:=by
 subst hx;exact qti F m hm i h hi
theorem qme(F:FS)(m:Nat)(hm:m<F.n)(x:Int)(hx:x=(m:Int))(i:Nat)(h:Hp)(hi:h[i]?=some (some (flP F))):qae prog 65 [xd i,xc x] h (.bool (F.on m)) [(i,flP F)] []:=by
 subst hx;exact q2g F m hm i h hi
theorem qd6(F:FS)(m:Nat)(hm:m<F.n)(x:Int)(hx:x=(m:Int))(i:Nat)(h:Hp)(hi:h[i]?=some (some (flP F))):qae prog 63 [xd i,xc x] h (q2u (F.g m)) [(i,flP F)] []:=by
 subst hx;exact qv7 F m hm i h hi
structure q4k(D:FS):Prop where
 n:D.n=5
 on:∀m,m<5->D.on m=true
 E:∀m,m<5->(D.s m).T.E=[]
 V:∀m,m<3->(D.s m).fv=true/\inP (D.s m).fx (D.s m).fy (D.s m).fa (D.s m).fb (D.s m).fd (D.P (m*2)) (D.P (m*2+1))
 N:∀m,3<=m->m<5->(D.s m).fv=false
def q8a:ByteArray:=⟨#[121,101,115]⟩
theorem jan(D:FS)(ok:q4k D)(a j:Nat)(haj:a≠j)(o:Bool)(h:Hp)(ha:h[a]?=some (some (cnC o j)))(hj:h[j]?=some (some (flP D))):
  qae prog 24 [xd a] h (.string q8a) [(j,flP D)] [a]:=by
 refine qaw (G:=tys) (λ_:Unit=>True) (λ_=>_) [⟨a,_,cnC false 1,⟨false,0,[]⟩⟩,⟨j,flP D,flP D,flP D⟩] [] [xd 0] tysOK q2p func24 Q4N (call24) ⟨ha,hj,xb⟩ ⟨Q3Q,Q3R,xb⟩ (by simp[Apart,haj]) ⟨.inl rfl,.inr ⟨rfl,rfl⟩,xb⟩ xb ⟨.ptr rfl,xb⟩ Opens.same ?_
 rintro⟨⟩ -
 repeat' (refine Ba ?_;first|refine Q2R ?_|refine Q31 ?_|refine Bq 6 ?_|refine Bc (qdw D 0 Q57 _ Q4N 1 _ Q4N) ?_|refine Bc (qd6 D 0 Q57 _ Q4N 1 _ Q4N) ?_|refine Bc (qc0 D 0 Q57 (ok.E 0 Q4P) 1 9 _ Q4N Q4N) ?_|refine Bc (qme D 0 Q57 _ Q4N 1 _ Q4N) ?_|refine Be (ok.on 0 Q4P) ?_|refine Be ((ok.V 0 Q4P).1) ?_|refine Bc (q9v _ _ _ _ _ _ _ true _ (xg (ok.V 0 Q4P).2)) ?_|refine Bc (qdw D 1 Q57 _ Q4N 1 _ Q4N) ?_|refine Bc (qd6 D 1 Q57 _ Q4N 1 _ Q4N) ?_|refine Bc (qc0 D 1 Q57 (ok.E 1 Q4P) 1 9 _ Q4N Q4N) ?_|refine Bc (qme D 1 Q57 _ Q4N 1 _ Q4N) ?_|refine Be (ok.on 1 Q4P) ?_|refine Be ((ok.V 1 Q4P).1) ?_|refine Bc (q9v _ _ _ _ _ _ _ true _ (xg (ok.V 1 Q4P).2)) ?_|refine Bc (qdw D 2 Q57 _ Q4N 1 _ Q4N) ?_|refine Bc (qd6 D 2 Q57 _ Q4N 1 _ Q4N) ?_|refine Bc (qc0 D 2 Q57 (ok.E 2 Q4P) 1 9 _ Q4N Q4N) ?_|refine Bc (qme D 2 Q57 _ Q4N 1 _ Q4N) ?_|refine Be (ok.on 2 Q4P) ?_|refine Be ((ok.V 2 Q4P).1) ?_|refine Bc (q9v _ _ _ _ _ _ _ true _ (xg (ok.V 2 Q4P).2)) ?_|refine Bc (qdw D 3 Q57 _ Q4N 1 _ Q4N) ?_|refine Bc (qd6 D 3 Q57 _ Q4N 1 _ Q4N) ?_|refine Bc (qc0 D 3 Q57 (ok.E 3 Q4P) 1 9 _ Q4N Q4N) ?_|refine Bc (qme D 3 Q57 _ Q4N 1 _ Q4N) ?_|refine Be (ok.on 3 Q4P) ?_|refine Bf (ok.N 3 Q4P Q4P) ?_|refine Bc (qdw D 4 Q57 _ Q4N 1 _ Q4N) ?_|refine Bc (qd6 D 4 Q57 _ Q4N 1 _ Q4N) ?_|refine Bc (qc0 D 4 Q57 (ok.E 4 Q4P) 1 9 _ Q4N Q4N) ?_|refine Bc (qme D 4 Q57 _ Q4N 1 _ Q4N) ?_|refine Be (ok.on 4 Q4P) ?_|refine Bf (ok.N 4 Q4P Q4P) ?_|fail)
 refine Ba ?_
 refine Bh ?_
 refine Bb (.plain rfl) ?_
 refine Bb ⟨Q3T,xb⟩ ?_
 refine Bb xb ?_
 refine Bb ⟨Q4q,xb⟩ ?_
 exact Bd
theorem qtj:∀{ms:Mz}{h:Hp},(∀m,m∈ms->h[m.1]?=some (some m.2))->modH h ms=h
 | [],_,_=>rfl
 | (i,c)::ms,h,hm=>by
  have e:h.set i (some c)=h:=by
   refine xU λj=>?_
   by_cases e:i=j
   .subst e;have h1:=hm _ (yo ..);rw[h1,xq (xe.1 h1).1]
   .rw[xo e]
  show modH (h.set i (some c)) ms=h;rw[e];exact qtj λm h1=>hm m (ya _ h1)
theorem qch{P:Program}{g:FuncId}{vs:List Value}{h:Hp}{v:Value}{ms:Mz}{rh rh':List Nat}(hms:∀m,m∈ms->h[m.1]?=some (some m.2))(h1':∀i,i∈rh->i∈rh')(h2':∀m,m∈ms->m.1∈rh')(hc:qae P g vs h v ms rh):qae P g vs h v [] rh':=λh₂ h1 _ X ρ w xs H hx=>by
 have h2:∀m∈ms,h₂[m.1]?=h[m.1]?:=λm hm=>h1 _ (h2' m hm)
 have e:modH h₂ ms=h₂:=qtj λm hm=>(h2 m hm).trans (hms m hm)
 have:=hc h₂ (λi hi=>h1 i (h1' i hi)) h2 X ρ w xs H hx;rw[e] at this;exact this
theorem q2h(W:World)(hW:TxOK W)(F:List By)(D:FS)(wa:ByteArray)(h1:wa≠⟨#[115,117,114,101]⟩)(h2:wa≠⟨#[116,105,109,101]⟩)(h3:wa≠⟨#[97,105,114]⟩)(h4:wa≠⟨#[108,111,115,116]⟩)(a j m:Nat)(hne:[a,j,m].Nodup)(o:Bool)(h:Hp)(ha:h[a]?=some (some (cnC o j)))(hj:h[j]?=some (some (flP D)))(hm:h[m]?=some (some (q2q W F))):
  qae prog 15 [xd a,.string wa] h (.tuple #[.string ⟨#[]⟩,.bool false]) [(j,flP D),(m,q2q W F)] [a]:=by
 simp only[xx,xf,xw,or_false,not_or,xD,and_true,xu] at hne
 obtain⟨⟨n01,n02⟩,n12⟩:=hne
 refine qaw (G:=tys) (λ_:Unit=>True) (λ_=>_) [⟨a,_,cnC false 1,⟨false,0,[]⟩⟩,⟨j,flP D,flP D,flP D⟩,⟨m,q2q W F,q2q W F,q2q W F⟩] [] [xd 0,.string wa] tysOK q2p func15 Q4N (call15) ⟨ha,hj,hm,xb⟩ ⟨Q3Q,Q3R,Q3R,xb⟩ Q5v Q44 xb Q3Y Opens.same ?_
 rintro⟨⟩ -
 repeat' (refine Ba ?_;first|refine Q2R ?_|refine Q3F ?_|refine Bf (xl h1) ?_|refine Bf (xl h2) ?_|refine Bf (xl h3) ?_|refine Bf (xl h4) ?_|fail)
 refine Ba ?_
 refine Bh ?_
 refine Bb (.plain rfl) ?_
 refine Bb ⟨Q3T,Q3T,xb⟩ ?_
 refine Bb xb ?_
 refine Bb Q42 ?_
 exact Bd
theorem q5i(W:World)(hW:TxOK W)(F:List By)(D:FS)(wa:ByteArray)(h1:wa≠⟨#[115,117,114,101]⟩)(h2:wa≠⟨#[116,105,109,101]⟩)(h3:wa≠⟨#[97,105,114]⟩)(h4:wa≠⟨#[108,111,115,116]⟩)(a j m:Nat)(o:Bool)(h:Hp)(hne:[a,j,m].Nodup)(ha:h[a]?=some (some (cnC o j)))(hj:h[j]?=some (some (flP D)))(hm:h[m]?=some (some (q2q W F))):
  qae prog 15 [xd a,.string wa] h (.tuple #[.string ⟨#[]⟩,.bool false]) [] [a,j,m]:=
 qch (ms:=[(j,flP D),(m,q2q W F)]) (rh:=[a]) Q5O Q4X Q4X (q2h W hW F D wa h1 h2 h3 h4 a j m hne o h ha hj hm)
theorem qtk(W:World)(hW:TxOK W)(F:List By)(D:FS)(ok:q4k D)(a j m:Nat)(hne:[a,j,m].Nodup)(o:Bool)(h:Hp)(ha:h[a]?=some (some (cnC o j)))(hj:h[j]?=some (some (flP D)))(hm:h[m]?=some (some (q2q W F))):
  qae prog 15 [xd a,.string ⟨#[115,117,114,101]⟩] h (.tuple #[.string q8a,.bool true]) [(j,flP D),(m,q2q W F)] [a]:=by
 simp only[xx,xf,xw,or_false,not_or,xD,and_true,xu] at hne
 obtain⟨⟨n01,n02⟩,n12⟩:=hne
 refine qaw (G:=tys) (λ_:Unit=>True) (λ_=>_) [⟨a,_,cnC false 1,⟨false,0,[]⟩⟩,⟨j,flP D,flP D,flP D⟩,⟨m,q2q W F,q2q W F,q2q W F⟩] [] [xd 0,.string ⟨#[115,117,114,101]⟩] tysOK q2p func15 Q4N (call15) ⟨ha,hj,hm,xb⟩ ⟨Q3Q,Q3R,Q3R,xb⟩ Q5v Q44 xb Q3Y Opens.same ?_
 rintro⟨⟩ -
 repeat' (refine Ba ?_;first|refine Q2R ?_|refine Q35 ?_|refine Q3F ?_|refine Bc (jan D ok 0 1 Q4P false _ Q4N Q4N) ?_|fail)
 refine Ba ?_
 refine Bh ?_
 refine Bb (.plain rfl) ?_
 refine Bb ⟨Q3T,Q3T,xb⟩ ?_
 refine Bb xb ?_
 refine Bb Q42 ?_
 exact Bd
theorem qwe(W:World)(hW:TxOK W)(F:List By)(D:FS)(ok:q4k D)(a j m:Nat)(o:Bool)(h:Hp)(hne:[a,j,m].Nodup)(ha:h[a]?=some (some (cnC o j)))(hj:h[j]?=some (some (flP D)))(hm:h[m]?=some (some (q2q W F))):
  qae prog 15 [xd a,.string ⟨#[115,117,114,101]⟩] h (.tuple #[.string q8a,.bool true]) [] [a,j,m]:=
 qch (ms:=[(j,flP D),(m,q2q W F)]) (rh:=[a]) Q5O Q4X Q4X (qtk W hW F D ok a j m hne o h ha hj hm)
theorem qwf(W:World)(hW:TxOK W)(F:List By)(D:FS)(hn:0<D.n)(hl:D.L.length<=100000)(a j m:Nat)(hne:[a,j,m].Nodup)(o:Bool)(h:Hp)(ha:h[a]?=some (some (cnC o j)))(hj:h[j]?=some (some (flP D)))(hm:h[m]?=some (some (q2q W F))):
  qae prog 15 [xd a,.string ⟨#[97,105,114]⟩] h (.tuple #[.string (q20 (D.L.length:Nat)),.bool true]) [(j,flP D),(m,q2q W F)] [a]:=by
 simp only[xx,xf,xw,or_false,not_or,xD,and_true,xu] at hne
 obtain⟨⟨n01,n02⟩,n12⟩:=hne
 refine qaw (G:=tys) (λ_:Unit=>True) (λ_=>_) [⟨a,_,cnC false 1,⟨false,0,[]⟩⟩,⟨j,flP D,flP D,flP D⟩,⟨m,q2q W F,q2q W F,q2q W F⟩] [] [xd 0,.string ⟨#[97,105,114]⟩] tysOK q2p func15 Q4N (call15) ⟨ha,hj,hm,xb⟩ ⟨Q3Q,Q3R,Q3R,xb⟩ Q5v Q44 xb Q3Y Opens.same ?_
 rintro⟨⟩ -
 repeat' (refine Ba ?_;first|refine Q2R ?_|refine Q31 ?_|refine Q3F ?_|refine Bc (qz5 D hn 1 _ Q4N) ?_|refine Bc (q2b W hW F _ ⟨by omega,by omega⟩ 2 _ Q4N) ?_|fail)
 refine Ba ?_
 refine Bh ?_
 refine Bb (.plain rfl) ?_
 refine Bb ⟨Q3T,Q3T,xb⟩ ?_
 refine Bb xb ?_
 refine Bb Q42 ?_
 exact Bd
theorem q0b(W:World)(hW:TxOK W)(F:List By)(D:FS)(hn:0<D.n)(hl:D.L.length<=100000)(a j m:Nat)(o:Bool)(h:Hp)(hne:[a,j,m].Nodup)(ha:h[a]?=some (some (cnC o j)))(hj:h[j]?=some (some (flP D)))(hm:h[m]?=some (some (q2q W F))):
  qae prog 15 [xd a,.string ⟨#[97,105,114]⟩] h (.tuple #[.string (q20 (D.L.length:Nat)),.bool true]) [] [a,j,m]:=
 qch (ms:=[(j,flP D),(m,q2q W F)]) (rh:=[a]) Q5O Q4X Q4X (qwf W hW F D hn hl a j m hne o h ha hj hm)
open Go Go.RowKit Sx
theorem q2i(W:World)(hW:TxOK W)(F:List By)(x y a b d:Int)(hx:q2z x)(hy:q2z y)(ha:q2z a)(hb:q2z b)(hd:q2z d)(i:Nat)(h:Hp)(hi:h[i]?=some (some (q2q W F))):qae prog 75 [.agg #[xc x,xc y,xc a,xc b,xc d]] h (.string (q30 x y a b d)) [] [i]:=by
 have lx:=qd3 x hx;have ly:=qd3 y hy;have la:=qd3 a ha;have lb:=qd3 b hb;have ld:=qd3 d hd;have lc:(ByteArray.mk #[44]).size=1:=rfl;have ls:(ByteArray.mk #[47]).size=1:=rfl;refine qmc i W F hi tysOK q2p func75 Q4N hW.pos rfl rfl (call75) λw hk=>?_
 repeat' (refine Ba ?_;first|refine Q2R ?_|refine Bc (q5h _ (hW.kept hk) x hx 0 _ Q4N) ?_|refine Bc (q5h _ (hW.kept hk) y hy 0 _ Q4N) ?_|refine Bc (q5h _ (hW.kept hk) a ha 0 _ Q4N) ?_|refine Bc (q5h _ (hW.kept hk) b hb 0 _ Q4N) ?_|refine Bc (q5h _ (hW.kept hk) d hd 0 _ Q4N) ?_|refine Bn _ (qtb _ _ _ _ (by simp only[ByteArray.size_append,lc,ls];omega)) ?_|exact N.mk ⟨rfl,rfl⟩|fail)
theorem q0c(W:World)(hW:TxOK W)(F:List By)(D:FS)(q:Nat)(hq:q<D.n)(x:Int)(hx:x=(q:Int))(hE:(D.s q).T.E=[])(hv:(D.s q).fv=true)(f1:q2z (D.s q).fx)(f2:q2z (D.s q).fy)(f3:q2z (D.s q).fa)(f4:q2z (D.s q).fb)(f5:q2z (D.s q).fd)(a j m:Nat)(hne:[a,j,m].Nodup)(o:Bool)(h:Hp)(ha:h[a]?=some (some (cnC o j)))(hj:h[j]?=some (some (flP D)))(hm:h[m]?=some (some (q2q W F))):
  qae prog 39 [xd a,xc x] h (.string (q30 (D.s q).fx (D.s q).fy (D.s q).fa (D.s q).fb (D.s q).fd)) [(j,flP D),(m,q2q W F)] [a]:=by
 simp only[xx,xf,xw,or_false,not_or,xD,and_true,xu] at hne
 obtain⟨⟨n01,n02⟩,n12⟩:=hne
 refine qaw (G:=tys) (λ_:Unit=>True) (λ_=>_) [⟨a,_,cnC false 1,⟨false,0,[]⟩⟩,⟨j,flP D,flP D,flP D⟩,⟨m,q2q W F,q2q W F,q2q W F⟩] [] [xd 0,xc x] tysOK q2p func39 Q4N (call39) ⟨ha,hj,hm,xb⟩ ⟨Q3Q,Q3R,Q3R,xb⟩ Q5v Q44 xb Q3Y Opens.same ?_
 rintro⟨⟩ -
 repeat' (refine Ba ?_;first|refine Q2R ?_|refine Bc (qd6 D q hq _ hx 1 _ Q4N) ?_|refine Bc (qc0 D q hq hE 1 6 _ Q4N Q4N) ?_|refine Be hv ?_|refine Bc (q2i W hW F _ _ _ _ _ f1 f2 f3 f4 f5 2 _ Q4N) ?_|fail)
 refine Ba ?_
 refine Bh ?_
 refine Bb (.plain rfl) ?_
 refine Bb ⟨Q3T,Q3T,xb⟩ ?_
 refine Bb xb ?_
 refine Bb Q42 ?_
 exact Bd
theorem q2j(W:World)(hW:TxOK W)(F:List By)(D:FS)(q:Nat)(hq:q<D.n)(x:Int)(hx:x=(q:Int))(hE:(D.s q).T.E=[])(hv:(D.s q).fv=true)(f1:q2z (D.s q).fx)(f2:q2z (D.s q).fy)(f3:q2z (D.s q).fa)(f4:q2z (D.s q).fb)(f5:q2z (D.s q).fd)(a j m:Nat)(o:Bool)(h:Hp)(hne:[a,j,m].Nodup)(ha:h[a]?=some (some (cnC o j)))(hj:h[j]?=some (some (flP D)))(hm:h[m]?=some (some (q2q W F))):
  qae prog 39 [xd a,xc x] h (.string (q30 (D.s q).fx (D.s q).fy (D.s q).fa (D.s q).fb (D.s q).fd)) [] [a,j,m]:=
 qch (ms:=[(j,flP D),(m,q2q W F)]) (rh:=[a]) Q5O Q4X Q4X (q0c W hW F D q hq x hx hE hv f1 f2 f3 f4 f5 a j m hne o h ha hj hm)
theorem q0d(W:World)(hW:TxOK W)(F:List By)(D:FS)(q:Nat)(hq:q<D.n)(x:Int)(hx:x=(q:Int))(f1:q2z (D.P (q*2)))(f2:q2z (D.P (q*2+1)))(a j m:Nat)(hne:[a,j,m].Nodup)(o:Bool)(h:Hp)(ha:h[a]?=some (some (cnC o j)))(hj:h[j]?=some (some (flP D)))(hm:h[m]?=some (some (q2q W F))):
  qae prog 40 [xd a,xc x] h (.string (q20 (D.P (q*2))++q3k++q20 (D.P (q*2+1)))) [(j,flP D),(m,q2q W F)] [a]:=by
 simp only[xx,xf,xw,or_false,not_or,xD,and_true,xu] at hne
 obtain⟨⟨n01,n02⟩,n12⟩:=hne
 refine qaw (G:=tys) (λ_:Unit=>True) (λ_=>_) [⟨a,_,cnC false 1,⟨false,0,[]⟩⟩,⟨j,flP D,flP D,flP D⟩,⟨m,q2q W F,q2q W F,q2q W F⟩] [] [xd 0,xc x] tysOK q2p func40 Q4N (call40) ⟨ha,hj,hm,xb⟩ ⟨Q3Q,Q3R,Q3R,xb⟩ Q5v Q44 xb Q3Y Opens.same ?_
 have lx:=qd3 _ f1
 have ly:=qd3 _ f2
 have lc:(ByteArray.mk #[44]).size=1:=rfl
 rintro⟨⟩ -
 repeat' (refine Ba ?_;first|refine Q2R ?_|refine Bc (qdw D q hq _ hx 1 _ Q4N) ?_|refine Bc (q6y W hW F _ f1 2 _ Q4N) ?_|refine Bc (q6y W hW F _ f2 2 _ Q4N) ?_|refine Bn _ (qtb _ _ _ _ (by simp only[ByteArray.size_append,lc];omega)) ?_|fail)
 refine Ba ?_
 refine Bh ?_
 refine Bb (.plain rfl) ?_
 refine Bb ⟨Q3T,Q3T,xb⟩ ?_
 refine Bb xb ?_
 refine Bb Q42 ?_
 exact Bd
theorem q2k(W:World)(hW:TxOK W)(F:List By)(D:FS)(q:Nat)(hq:q<D.n)(x:Int)(hx:x=(q:Int))(f1:q2z (D.P (q*2)))(f2:q2z (D.P (q*2+1)))(a j m:Nat)(o:Bool)(h:Hp)(hne:[a,j,m].Nodup)(ha:h[a]?=some (some (cnC o j)))(hj:h[j]?=some (some (flP D)))(hm:h[m]?=some (some (q2q W F))):
  qae prog 40 [xd a,xc x] h (.string (q20 (D.P (q*2))++q3k++q20 (D.P (q*2+1)))) [] [a,j,m]:=
 qch (ms:=[(j,flP D),(m,q2q W F)]) (rh:=[a]) Q5O Q4X Q4X (q0d W hW F D q hq x hx f1 f2 a j m hne o h ha hj hm)
theorem qwg(x y:Operand)(q:Nat×Nat):BinIs prog .eql 70 x y (q2u q) (.pointer none) (.bool false):=⟨rfl,rfl,rfl,λw=>by unfold q2u;go_simp⟩
theorem ja6(W:World)(hW:TxOK W)(F:List By)(D:FS)(g:FuncId)(s:ByteArray)(q:Nat)(hq:q<D.n)(hq64:q<64)(hg:∀(a j m:Nat)(o:Bool)(h:Hp),[a,j,m].Nodup->h[a]?=some (some (cnC o j))->h[j]?=some (some (flP D))->h[m]?=some (some (q2q W F))->qae prog g [xd a,xc (q:Int)] h (.string s) [] [a,j,m])(S:Nat->ByteArray)(cap k p c:Nat)(hp:p<cap)(hS:S p=q20 (q:Int))(a l m j:Nat)(hne:[a,l,k,m,j].Nodup)(o oo:Bool)(h:Hp)(ha:h[a]?=some (some (cnC o j)))(hl:h[l]?=some (some (wdC true k p (0+1) (c+1) false)))(hk:h[k]?=some (some (rsC oo cap S)))(hm:h[m]?=some (some (q2q W F)))(hj:h[j]?=some (some (flP D))):
  qae prog 38 [xd a,xd l,.func (.func g) ⟨[xd a]⟩ ⟨[]⟩] h (.string s) [(l,wdC true k (nxt p c) 0 c false),(m,q2q W F),(j,flP D)] [a,k]:=by
 simp only[xx,xf,xw,or_false,not_or,xD,and_true,xu] at hne
 obtain⟨⟨n01,n02,n03,n04⟩,⟨n12,n13,n14⟩,⟨n23,n24⟩,n34⟩:=hne
 refine qaw (G:=tys) (λ_:Unit=>True) (λ_=>_) [⟨a,_,cnC false 4,⟨false,0,[]⟩⟩,⟨l,_,wdC true 2 p (0+1) (c+1) false,wdC true k (nxt p c) 0 c false⟩,⟨k,_,rsC false cap S,⟨false,0,[]⟩⟩,⟨m,q2q W F,q2q W F,q2q W F⟩,⟨j,flP D,flP D,flP D⟩] [] [xd 0,xd 1,.func (.func g) ⟨[xd 0]⟩ ⟨[]⟩] tysOK q2p func38 Q4N (call38) ⟨ha,hl,hk,hm,hj,xb⟩ Q3P Q54 Q3Z xb ⟨.ptr rfl,.ptr rfl,.func ⟨.ptr rfl,xb⟩ xb,xb⟩ Opens.same ?_
 rintro⟨⟩ -
 repeat' (refine Ba ?_;first|refine Q2R ?_|refine Q37 ?_|refine Q3u ?_|refine Bc (qd6 D q hq _ rfl 4 _ Q4N) ?_|refine Bn _ (qwg _ _ _) ?_|refine Bc (hg 0 4 3 false _ Q4P Q4N Q4N Q4N) ?_|fail)
 refine Ba ?_
 refine Bh ?_
 refine Bb (.plain rfl) ?_
 refine Bb ⟨Q3U,Q3T,Q3T,xb⟩ ?_
 refine Bb xb ?_
 refine Bb Q3X ?_
 exact Bd
theorem jbx(W:World)(hW:TxOK W)(F:List By)(D:FS)(g:FuncId)(q:Nat)(hn:0<D.n)(hq:D.n<=q)(hq64:q<64)(S:Nat->ByteArray)(cap k p c:Nat)(hp:p<cap)(hS:S p=q20 (q:Int))(a l m j:Nat)(hne:[a,l,k,m,j].Nodup)(o oo:Bool)(h:Hp)(ha:h[a]?=some (some (cnC o j)))(hl:h[l]?=some (some (wdC true k p (0+1) (c+1) false)))(hk:h[k]?=some (some (rsC oo cap S)))(hm:h[m]?=some (some (q2q W F)))(hj:h[j]?=some (some (flP D))):
  qae prog 38 [xd a,xd l,.func (.func g) ⟨[xd a]⟩ ⟨[]⟩] h (.string (q4j 1)) [(l,wdC true k (nxt p c) 0 c false),(m,q2q W F),(j,flP D)] [a,k]:=by
 simp only[xx,xf,xw,or_false,not_or,xD,and_true,xu] at hne
 obtain⟨⟨n01,n02,n03,n04⟩,⟨n12,n13,n14⟩,⟨n23,n24⟩,n34⟩:=hne
 refine qaw (G:=tys) (λ_:Unit=>True) (λ_=>_) [⟨a,_,cnC false 4,⟨false,0,[]⟩⟩,⟨l,_,wdC true 2 p (0+1) (c+1) false,wdC true k (nxt p c) 0 c false⟩,⟨k,_,rsC false cap S,⟨false,0,[]⟩⟩,⟨m,q2q W F,q2q W F,q2q W F⟩,⟨j,flP D,flP D,flP D⟩] [] [xd 0,xd 1,.func (.func g) ⟨[xd 0]⟩ ⟨[]⟩] tysOK q2p func38 Q4N (call38) ⟨ha,hl,hk,hm,hj,xb⟩ Q3P Q54 Q3Z xb ⟨.ptr rfl,.ptr rfl,.func ⟨.ptr rfl,xb⟩ xb,xb⟩ Opens.same ?_
 rintro⟨⟩ -
 repeat' (refine Ba ?_;first|refine Q2R ?_|refine Q37 ?_|refine Q3u ?_|refine Bc (qwc D hn (q:Int) Q4L 4 _ Q4N) ?_|refine Bc (qng W hW F 1 Q4P 3 _ Q4N) ?_|fail)
 refine Ba ?_
 refine Bh ?_
 refine Bb (.plain rfl) ?_
 refine Bb ⟨Q3U,Q3T,Q3T,xb⟩ ?_
 refine Bb xb ?_
 refine Bb Q3X ?_
 exact Bd
structure q8t(W:World)(F:List By)(D:FS)(A:List Am):Prop where
 n:1<=D.n/\D.n<=64
 h4:0<=D.C 4/\D.C 4<=100
 h5:0<=D.C 5/\D.C 5<=1000
 t:0<=D.tm/\D.tm<750000
 l:0<=D.lost/\D.lost<=1000000
 A:AirA W F D.L A
 N:∀m,m<D.n->NdOK (D.s m)
theorem q0e(W:World)(hW:TxOK W)(F:List By)(D:FS)(A:List Am)(ok:q8t W F D A)(S:Nat->ByteArray)(cap k p c:Nat)(a l m j:Nat)(hne:[a,l,k,j,m].Nodup)(o oo:Bool)(h:Hp)(ha:h[a]?=some (some (cnC o j)))(hl:h[l]?=some (some (wdC true k p 0 c false)))(hk:h[k]?=some (some (rsC oo cap S)))(hm:h[m]?=some (some (q2q W F)))(hj:h[j]?=some (some (flP D))):
  CallAll prog 29 [xd a,xd l] h λv ms=>∃L' B',AirA W B' L' (tickZ D A D.n).2.1/\(∀e,e∈F->e∈B')/\v=.string okB/\ms=[(l,wdC true k p 0 c false),(j,flP (q26 D L' (tickZ D A D.n))),(m,q2q W B')]:=by
 simp only[xx,xf,xw,or_false,not_or,xD,and_true,xu] at hne
 obtain⟨⟨n01,n02,n03,n04⟩,⟨n12,n13,n14⟩,⟨n23,n24⟩,n34⟩:=hne
 have key:=qar (G:=tys) (h:=h) (vs:=[xd a,xd l]) (λ_:Unit=>True) (λ_=>_) (α:=List Ml×List By) (λκ=>AirA W κ.2 κ.1 (tickZ D A D.n).2.1/\∀e,e∈F->e∈κ.2) (λκ=>.string okB) [⟨a,_,cnC false 3,⟨false,0,[]⟩⟩,⟨l,_,wdC true 2 p 0 c false,wdC true k p 0 c false⟩,⟨k,_,rsC false cap S,⟨false,0,[]⟩⟩,⟨j,flP D,flP D,flP D⟩,⟨m,q2q W F,q2q W F,q2q W F⟩] (λκ=>[⟨false,0,[]⟩,wdC true k p 0 c false,⟨false,0,[]⟩,flP (q26 D κ.1 (tickZ D A D.n)),q2q W κ.2]) (λκ=>[]) [xd 0,xd 1] tysOK q2p func29 Q4N (call29) ⟨ha,hl,hk,hj,hm,xb⟩ Q3P (λκ _=>Q3P) Q54 Q3Z (λκ _=>trivial) ⟨.ptr rfl,.ptr rfl,xb⟩ Opens.same ?_
 .exact Q0L
 rintro⟨⟩ -
 repeat' (refine Ba ?_;first|refine Q2R ?_|refine Q31 ?_|refine Bc (q61 S cap 2 p 0 c false 1 false _ Q4N Q4N) ?_|refine Bq 2 ?_|fail)
 refine Ba ?_
 refine Bg (qs7 W F D ok.n ok.h4 ok.h5 ok.t ok.l A ok.A ok.N 3 4 Q4P _ Q4N Q4N) λv ms hR=>?_
 obtain⟨L',B',h1,h2,rfl,rfl⟩:=hR
 repeat' (refine Ba ?_;first|refine Q2R ?_|refine Q31 ?_|fail)
 refine Ba ?_
 refine Bh ?_
 refine Bj (L',B') ⟨⟨h1,h2⟩,?_⟩
 refine Bb (.plain rfl) ?_
 refine Bb ⟨Q3U,Q3T,Q3T,xb⟩ ?_
 refine Bb xb ?_
 refine Bb Q3X ?_
 exact Bd
theorem qwh(W:World)(hW:TxOK W)(F:List By)(D:FS)(A:List Am)(ok:q8t W F D A)(S:Nat->ByteArray)(cap k p c:Nat)(a l m j:Nat)(hne:[a,l,k,j,m].Nodup)(o oo:Bool)(h:Hp)(ha:h[a]?=some (some (cnC o j)))(hl:h[l]?=some (some (wdC true k p 0 c false)))(hk:h[k]?=some (some (rsC oo cap S)))(hm:h[m]?=some (some (q2q W F)))(hj:h[j]?=some (some (flP D))):
  CallAll prog 16 [xd a,.string ⟨#[116,105,99,107]⟩,xd l] h λv ms=>∃L' B',AirA W B' L' (tickZ D A D.n).2.1/\(∀e,e∈F->e∈B')/\v=.string okB/\ms=[(l,wdC true k p 0 c false),(j,flP (q26 D L' (tickZ D A D.n))),(m,q2q W B')]:=by
 simp only[xx,xf,xw,or_false,not_or,xD,and_true,xu] at hne
 obtain⟨⟨n01,n02,n03,n04⟩,⟨n12,n13,n14⟩,⟨n23,n24⟩,n34⟩:=hne
 have key:=qar (G:=tys) (h:=h) (vs:=[xd a,.string ⟨#[116,105,99,107]⟩,xd l]) (λ_:Unit=>True) (λ_=>_) (α:=List Ml×List By) (λκ=>AirA W κ.2 κ.1 (tickZ D A D.n).2.1/\∀e,e∈F->e∈κ.2) (λκ=>.string okB) [⟨a,_,cnC false 3,⟨false,0,[]⟩⟩,⟨l,_,wdC true 2 p 0 c false,wdC true k p 0 c false⟩,⟨k,_,rsC false cap S,⟨false,0,[]⟩⟩,⟨j,flP D,flP D,flP D⟩,⟨m,q2q W F,q2q W F,q2q W F⟩] (λκ=>[⟨false,0,[]⟩,wdC true k p 0 c false,⟨false,0,[]⟩,flP (q26 D κ.1 (tickZ D A D.n)),q2q W κ.2]) (λκ=>[]) [xd 0,.string ⟨#[116,105,99,107]⟩,xd 1] tysOK q2p func16 Q4N (call16) ⟨ha,hl,hk,hj,hm,xb⟩ Q3P (λκ _=>Q3P) Q54 Q3Z (λκ _=>trivial) Q4g Opens.same ?_
 .exact Q0L
 rintro⟨⟩ -
 repeat' (refine Ba ?_;first|refine Q2R ?_|refine Q35 ?_|refine Q3F ?_|fail)
 refine Ba ?_
 refine Bg (q0e W hW F D A ok S cap 2 p c 0 1 4 3 Q4P false false _ Q4N Q4N Q4N Q4N Q4N) λv ms hR=>?_
 obtain⟨L',B',h1,h2,rfl,rfl⟩:=hR
 repeat' (refine Ba ?_;first|refine Q2R ?_|refine Q31 ?_|fail)
 refine Ba ?_
 refine Bh ?_
 refine Bj (L',B') ⟨⟨h1,h2⟩,?_⟩
 refine Bb (.plain rfl) ?_
 refine Bb ⟨Q3U,Q3T,Q3T,xb⟩ ?_
 refine Bb xb ?_
 refine Bb Q3X ?_
 exact Bd
theorem qtl(W:World)(hW:TxOK W)(F:List By)(D:FS)(hE:q4i W)(S:Nat->ByteArray)(cap k p c:Nat)(hp:p<cap)(hs:(S p).size<=2500)(hb:Lib.parseIntB 64 (S p).data.toList=Lib.parseIntB 64 [])(a l m j:Nat)(hne:[a,l,k,j,m].Nodup)(o oo:Bool)(h:Hp)(ha:h[a]?=some (some (cnC o j)))(hl:h[l]?=some (some (wdC true k p 1 (c+1) false)))(hk:h[k]?=some (some (rsC oo cap S)))(hm:h[m]?=some (some (q2q W F)))(hj:h[j]?=some (some (flP D))):
  CallAll prog 16 [xd a,.string ⟨#[116,105,99,107]⟩,xd l] h λv ms=>v=.string (q4j 5)/\ms=[(l,wdC true k (nxt p c) 0 c true),(j,flP D),(m,q2q W F)]:=by
 simp only[xx,xf,xw,or_false,not_or,xD,and_true,xu] at hne
 obtain⟨⟨n01,n02,n03,n04⟩,⟨n12,n13,n14⟩,⟨n23,n24⟩,n34⟩:=hne
 have key:=qar (G:=tys) (h:=h) (vs:=[xd a,.string ⟨#[116,105,99,107]⟩,xd l]) (λ_:Unit=>True) (λ_=>_) (α:=Unit) (λκ=>True) (λκ=>.string (q4j 5)) [⟨a,_,cnC false 3,⟨false,0,[]⟩⟩,⟨l,_,wdC true 2 p 1 (c+1) false,wdC true k (nxt p c) 0 c true⟩,⟨k,_,rsC false cap S,⟨false,0,[]⟩⟩,⟨j,flP D,flP D,flP D⟩,⟨m,q2q W F,q2q W F,q2q W F⟩] (λκ=>[⟨false,0,[]⟩,wdC true k (nxt p c) 0 c true,⟨false,0,[]⟩,flP D,q2q W F]) (λκ=>[]) [xd 0,.string ⟨#[116,105,99,107]⟩,xd 1] tysOK q2p func16 Q4N (call16) ⟨ha,hl,hk,hj,hm,xb⟩ Q3P (λκ _=>Q3P) Q54 Q3Z (λκ _=>trivial) Q4g Opens.same ?_
 .exact Q0B
 rintro⟨⟩ -
 repeat' (refine Ba ?_;first|refine Q2R ?_|refine Q35 ?_|refine Q3F ?_|refine Bc (qz9 W hW hE F D S cap 2 p 0 c hp (xr _) hs hb 0 1 4 3 Q4P false false _ Q4N Q4N Q4N Q4N Q4N) ?_|fail)
 refine Ba ?_
 refine Bh ?_
 refine Bj () ⟨xb,?_⟩
 refine Bb (.plain rfl) ?_
 refine Bb ⟨Q3U,Q3T,Q3T,xb⟩ ?_
 refine Bb xb ?_
 refine Bb Q3X ?_
 exact Bd
theorem qtm(W:World)(hW:TxOK W)(F:List By)(D:FS)(q:Nat)(hq:q<D.n)(hq64:q<64)(hE:(D.s q).T.E=[])(hv:(D.s q).fv=true)(f1:q2z (D.s q).fx)(f2:q2z (D.s q).fy)(f3:q2z (D.s q).fa)(f4:q2z (D.s q).fb)(f5:q2z (D.s q).fd)(S:Nat->ByteArray)(cap k p c:Nat)(hp:p<cap)(hS:S p=q20 (q:Int))(a l m j:Nat)(hne:[a,l,k,j,m].Nodup)(o oo:Bool)(h:Hp)(ha:h[a]?=some (some (cnC o j)))(hl:h[l]?=some (some (wdC true k p 1 (c+1) false)))(hk:h[k]?=some (some (rsC oo cap S)))(hm:h[m]?=some (some (q2q W F)))(hj:h[j]?=some (some (flP D))):
  CallAll prog 16 [xd a,.string ⟨#[119,104,101,114,101]⟩,xd l] h λv ms=>v=.string (q30 (D.s q).fx (D.s q).fy (D.s q).fa (D.s q).fb (D.s q).fd)/\ms=[(l,wdC true k (nxt p c) 0 c false),(j,flP D),(m,q2q W F)]:=by
 simp only[xx,xf,xw,or_false,not_or,xD,and_true,xu] at hne
 obtain⟨⟨n01,n02,n03,n04⟩,⟨n12,n13,n14⟩,⟨n23,n24⟩,n34⟩:=hne
 have key:=qar (G:=tys) (h:=h) (vs:=[xd a,.string ⟨#[119,104,101,114,101]⟩,xd l]) (λ_:Unit=>True) (λ_=>_) (α:=Unit) (λκ=>True) (λκ=>.string (q30 (D.s q).fx (D.s q).fy (D.s q).fa (D.s q).fb (D.s q).fd)) [⟨a,_,cnC false 3,⟨false,0,[]⟩⟩,⟨l,_,wdC true 2 p 1 (c+1) false,wdC true k (nxt p c) 0 c false⟩,⟨k,_,rsC false cap S,⟨false,0,[]⟩⟩,⟨j,flP D,flP D,flP D⟩,⟨m,q2q W F,q2q W F,q2q W F⟩] (λκ=>[⟨false,0,[]⟩,wdC true k (nxt p c) 0 c false,⟨false,0,[]⟩,flP D,q2q W F]) (λκ=>[]) [xd 0,.string ⟨#[119,104,101,114,101]⟩,xd 1] tysOK q2p func16 Q4N (call16) ⟨ha,hl,hk,hj,hm,xb⟩ Q3P (λκ _=>Q3P) Q54 Q3Z (λκ _=>trivial) Q4g Opens.same ?_
 .exact Q0B
 rintro⟨⟩ -
 repeat' (refine Ba ?_;first|refine Q2R ?_|refine Q31 ?_|refine Q3F ?_|refine Bc (ja6 W hW F D 39 _ q hq hq64 (λa j m o h hne ha hj hm=>q2j W hW F D q hq _ rfl hE hv f1 f2 f3 f4 f5 a j m o h hne ha hj hm) S cap 2 p c hp hS 0 1 4 3 Q4P false false _ Q4N Q4N Q4N Q4N Q4N) ?_|fail)
 refine Ba ?_
 refine Bh ?_
 refine Bj () ⟨xb,?_⟩
 refine Bb (.plain rfl) ?_
 refine Bb ⟨Q3U,Q3T,Q3T,xb⟩ ?_
 refine Bb xb ?_
 refine Bb Q3X ?_
 exact Bd
theorem qtn(W:World)(hW:TxOK W)(F:List By)(D:FS)(q:Nat)(hq:q<D.n)(hq64:q<64)(f1:q2z (D.P (q*2)))(f2:q2z (D.P (q*2+1)))(S:Nat->ByteArray)(cap k p c:Nat)(hp:p<cap)(hS:S p=q20 (q:Int))(a l m j:Nat)(hne:[a,l,k,j,m].Nodup)(o oo:Bool)(h:Hp)(ha:h[a]?=some (some (cnC o j)))(hl:h[l]?=some (some (wdC true k p 1 (c+1) false)))(hk:h[k]?=some (some (rsC oo cap S)))(hm:h[m]?=some (some (q2q W F)))(hj:h[j]?=some (some (flP D))):
  CallAll prog 16 [xd a,.string ⟨#[116,114,117,116,104]⟩,xd l] h λv ms=>v=.string (q20 (D.P (q*2))++q3k++q20 (D.P (q*2+1)))/\ms=[(l,wdC true k (nxt p c) 0 c false),(j,flP D),(m,q2q W F)]:=by
 simp only[xx,xf,xw,or_false,not_or,xD,and_true,xu] at hne
 obtain⟨⟨n01,n02,n03,n04⟩,⟨n12,n13,n14⟩,⟨n23,n24⟩,n34⟩:=hne
 have key:=qar (G:=tys) (h:=h) (vs:=[xd a,.string ⟨#[116,114,117,116,104]⟩,xd l]) (λ_:Unit=>True) (λ_=>_) (α:=Unit) (λκ=>True) (λκ=>.string (q20 (D.P (q*2))++q3k++q20 (D.P (q*2+1)))) [⟨a,_,cnC false 3,⟨false,0,[]⟩⟩,⟨l,_,wdC true 2 p 1 (c+1) false,wdC true k (nxt p c) 0 c false⟩,⟨k,_,rsC false cap S,⟨false,0,[]⟩⟩,⟨j,flP D,flP D,flP D⟩,⟨m,q2q W F,q2q W F,q2q W F⟩] (λκ=>[⟨false,0,[]⟩,wdC true k (nxt p c) 0 c false,⟨false,0,[]⟩,flP D,q2q W F]) (λκ=>[]) [xd 0,.string ⟨#[116,114,117,116,104]⟩,xd 1] tysOK q2p func16 Q4N (call16) ⟨ha,hl,hk,hj,hm,xb⟩ Q3P (λκ _=>Q3P) Q54 Q3Z (λκ _=>trivial) Q4g Opens.same ?_
 .exact Q0B
 rintro⟨⟩ -
 repeat' (refine Ba ?_;first|refine Q2R ?_|refine Q31 ?_|refine Q3F ?_|refine Bc (ja6 W hW F D 40 _ q hq hq64 (λa j m o h hne ha hj hm=>q2k W hW F D q hq _ rfl f1 f2 a j m o h hne ha hj hm) S cap 2 p c hp hS 0 1 4 3 Q4P false false _ Q4N Q4N Q4N Q4N Q4N) ?_|fail)
 refine Ba ?_
 refine Bh ?_
 refine Bj () ⟨xb,?_⟩
 refine Bb (.plain rfl) ?_
 refine Bb ⟨Q3U,Q3T,Q3T,xb⟩ ?_
 refine Bb xb ?_
 refine Bb Q3X ?_
 exact Bd
theorem qp0(W:World)(hW:TxOK W)(F:List By)(D:FS)(q:Nat)(hn:0<D.n)(hq:D.n<=q)(hq64:q<64)(S:Nat->ByteArray)(cap k p c:Nat)(hp:p<cap)(hS:S p=q20 (q:Int))(a l m j:Nat)(hne:[a,l,k,j,m].Nodup)(o oo:Bool)(h:Hp)(ha:h[a]?=some (some (cnC o j)))(hl:h[l]?=some (some (wdC true k p 1 (c+1) false)))(hk:h[k]?=some (some (rsC oo cap S)))(hm:h[m]?=some (some (q2q W F)))(hj:h[j]?=some (some (flP D))):
  CallAll prog 16 [xd a,.string ⟨#[119,104,101,114,101]⟩,xd l] h λv ms=>v=.string (q4j 1)/\ms=[(l,wdC true k (nxt p c) 0 c false),(j,flP D),(m,q2q W F)]:=by
 simp only[xx,xf,xw,or_false,not_or,xD,and_true,xu] at hne
 obtain⟨⟨n01,n02,n03,n04⟩,⟨n12,n13,n14⟩,⟨n23,n24⟩,n34⟩:=hne
 have key:=qar (G:=tys) (h:=h) (vs:=[xd a,.string ⟨#[119,104,101,114,101]⟩,xd l]) (λ_:Unit=>True) (λ_=>_) (α:=Unit) (λκ=>True) (λκ=>.string (q4j 1)) [⟨a,_,cnC false 3,⟨false,0,[]⟩⟩,⟨l,_,wdC true 2 p 1 (c+1) false,wdC true k (nxt p c) 0 c false⟩,⟨k,_,rsC false cap S,⟨false,0,[]⟩⟩,⟨j,flP D,flP D,flP D⟩,⟨m,q2q W F,q2q W F,q2q W F⟩] (λκ=>[⟨false,0,[]⟩,wdC true k (nxt p c) 0 c false,⟨false,0,[]⟩,flP D,q2q W F]) (λκ=>[]) [xd 0,.string ⟨#[119,104,101,114,101]⟩,xd 1] tysOK q2p func16 Q4N (call16) ⟨ha,hl,hk,hj,hm,xb⟩ Q3P (λκ _=>Q3P) Q54 Q3Z (λκ _=>trivial) Q4g Opens.same ?_
 .exact Q0B
 rintro⟨⟩ -
 repeat' (refine Ba ?_;first|refine Q2R ?_|refine Q31 ?_|refine Q3F ?_|refine Bc (jbx W hW F D 39 q hn hq hq64 S cap 2 p c hp hS 0 1 4 3 Q4P false false _ Q4N Q4N Q4N Q4N Q4N) ?_|fail)
 refine Ba ?_
 refine Bh ?_
 refine Bj () ⟨xb,?_⟩
 refine Bb (.plain rfl) ?_
 refine Bb ⟨Q3U,Q3T,Q3T,xb⟩ ?_
 refine Bb xb ?_
 refine Bb Q3X ?_
 exact Bd
open Go Go.RowKit Sx
theorem nd5{a j m k l:Nat}(hne:[a,j,m,k,l].Nodup):[a,l,k,j,m].Nodup:=by
 simp only[xx,xf,xw,or_false,not_or,xD,and_true,xu] at hne ⊢;omega
theorem q0f(W:World)(hW:TxOK W)(F:List By)(D:FS)(A:List Am)(ok:q8t W F D A)(a j m:Nat)(hne:[a,j,m].Nodup)(h:Hp)(ha:h[a]?=some (some (cnC true j)))(hj:h[j]?=some (some (flP D)))(hm:h[m]?=some (some (q2q W F))):
  CallAll prog 7 [xd a,.string ⟨#[116,105,99,107]⟩] h λv ms=>∃L' B',AirA W B' L' (tickZ D A D.n).2.1/\(∀e,e∈F->e∈B')/\v=.string okB/\ms=[(j,flP (q26 D L' (tickZ D A D.n))),(m,q2q W B')]:=by
 refine qam (qmd W hW F D ⟨#[116,105,99,107]⟩ [⟨#[116,105,99,107]⟩] Q4P Q4P Q4N Q4N ⟨#[116,105,99,107]⟩ [] Q4N ⟨#[]⟩ false Q4X (λa j m o h hne ha hj hm=>q5i W hW F D _ Q4P Q4P Q4P Q4P a j m o h hne ha hj hm) (λV D' F'=>∃L',AirA W F' L' (tickZ D A D.n).2.1/\(∀e,e∈F->e∈F')/\V=okB/\D'=q26 D L' (tickZ D A D.n)) (λa j m k l cap o h hne hc ha hj hm hk hl=>qam (qwh W hW F D A ok _ cap k _ _ a l m j (nd5 hne) o true h ha hl hk hm hj) λv ms hR=>?_) a j m hne h ha hj hm) λv ms hR=>?_
 .obtain⟨L',B',h1,h2,rfl,rfl⟩:=hR;exact⟨okB,_,B',_,⟨L',h1,h2,rfl,rfl⟩,rfl,rfl⟩
 .obtain⟨V,D',F',⟨L',h1,h2,rfl,rfl⟩,rfl,rfl⟩:=hR;exact⟨L',F',h1,h2,rfl,rfl⟩
theorem qto(W:World)(hW:TxOK W)(F:List By)(D:FS)(hn:0<D.n)(hE:(D.s 0).T.E=[])(hv:(D.s 0).fv=true)(f1:q2z (D.s 0).fx)(f2:q2z (D.s 0).fy)(f3:q2z (D.s 0).fa)(f4:q2z (D.s 0).fb)(f5:q2z (D.s 0).fd)(a j m:Nat)(hne:[a,j,m].Nodup)(h:Hp)(ha:h[a]?=some (some (cnC true j)))(hj:h[j]?=some (some (flP D)))(hm:h[m]?=some (some (q2q W F))):
  CallAll prog 7 [xd a,.string ⟨#[119,104,101,114,101,32,48]⟩] h λv ms=>v=.string (q30 (D.s 0).fx (D.s 0).fy (D.s 0).fa (D.s 0).fb (D.s 0).fd)/\ms=[(j,flP D),(m,q2q W F)]:=by
 refine qam (qmd W hW F D ⟨#[119,104,101,114,101,32,48]⟩ [⟨#[119,104,101,114,101]⟩,⟨#[48]⟩] Q4P Q4P Q4N Q4N ⟨#[119,104,101,114,101]⟩ [⟨#[48]⟩] Q4N ⟨#[]⟩ false Q4X (λa j m o h hne ha hj hm=>q5i W hW F D _ Q4P Q4P Q4P Q4P a j m o h hne ha hj hm) (λV D' F'=>V=(q30 (D.s 0).fx (D.s 0).fy (D.s 0).fa (D.s 0).fb (D.s 0).fd)/\D'=D/\F'=F) (λa j m k l cap o h hne hc ha hj hm hk hl=>?_) a j m hne h ha hj hm) λv ms hR=>?_
 .obtain⟨c,rfl⟩:∃c,cap=c+2:=⟨cap-2,by have hc:1+1<=cap:=hc;omega⟩;refine qam (qtm W hW F D 0 hn Q4P hE hv f1 f2 f3 f4 f5 _ (c+2) k 1 c Q4L Q5C a l m j (nd5 hne) o true h ha hl hk hm hj) λv ms hR=>?_
  exact Q1u
 .exact Q1v
theorem qtp(W:World)(hW:TxOK W)(F:List By)(D:FS)(hn:4<D.n)(f1:q2z (D.P (4*2)))(f2:q2z (D.P (4*2+1)))(a j m:Nat)(hne:[a,j,m].Nodup)(h:Hp)(ha:h[a]?=some (some (cnC true j)))(hj:h[j]?=some (some (flP D)))(hm:h[m]?=some (some (q2q W F))):
  CallAll prog 7 [xd a,.string ⟨#[116,114,117,116,104,32,52]⟩] h λv ms=>v=.string (q20 (D.P (4*2))++q3k++q20 (D.P (4*2+1)))/\ms=[(j,flP D),(m,q2q W F)]:=by
 refine qam (qmd W hW F D ⟨#[116,114,117,116,104,32,52]⟩ [⟨#[116,114,117,116,104]⟩,⟨#[52]⟩] Q4P Q4P Q4N Q4N ⟨#[116,114,117,116,104]⟩ [⟨#[52]⟩] Q4N ⟨#[]⟩ false Q4X (λa j m o h hne ha hj hm=>q5i W hW F D _ Q4P Q4P Q4P Q4P a j m o h hne ha hj hm) (λV D' F'=>V=(q20 (D.P (4*2))++q3k++q20 (D.P (4*2+1)))/\D'=D/\F'=F) (λa j m k l cap o h hne hc ha hj hm hk hl=>?_) a j m hne h ha hj hm) λv ms hR=>?_
 .obtain⟨c,rfl⟩:∃c,cap=c+2:=⟨cap-2,by have hc:1+1<=cap:=hc;omega⟩;refine qam (qtn W hW F D 4 hn Q4P f1 f2 _ (c+2) k 1 c Q4L Q5C a l m j (nd5 hne) o true h ha hl hk hm hj) λv ms hR=>?_
  exact Q1u
 .exact Q1v
theorem qmf(W:World)(hW:TxOK W)(F:List By)(D:FS)(hn:0<D.n)(hq:D.n<=9)(a j m:Nat)(hne:[a,j,m].Nodup)(h:Hp)(ha:h[a]?=some (some (cnC true j)))(hj:h[j]?=some (some (flP D)))(hm:h[m]?=some (some (q2q W F))):
  CallAll prog 7 [xd a,.string ⟨#[119,104,101,114,101,32,57]⟩] h λv ms=>v=.string (q4j 1)/\ms=[(j,flP D),(m,q2q W F)]:=by
 refine qam (qmd W hW F D ⟨#[119,104,101,114,101,32,57]⟩ [⟨#[119,104,101,114,101]⟩,⟨#[57]⟩] Q4P Q4P Q4N Q4N ⟨#[119,104,101,114,101]⟩ [⟨#[57]⟩] Q4N ⟨#[]⟩ false Q4X (λa j m o h hne ha hj hm=>q5i W hW F D _ Q4P Q4P Q4P Q4P a j m o h hne ha hj hm) (λV D' F'=>V=(q4j 1)/\D'=D/\F'=F) (λa j m k l cap o h hne hc ha hj hm hk hl=>?_) a j m hne h ha hj hm) λv ms hR=>?_
 .obtain⟨c,rfl⟩:∃c,cap=c+2:=⟨cap-2,by have hc:1+1<=cap:=hc;omega⟩;refine qam (qp0 W hW F D 9 hn hq Q4P _ (c+2) k 1 c Q4L Q5C a l m j (nd5 hne) o true h ha hl hk hm hj) λv ms hR=>?_
  exact Q1u
 .exact Q1v
theorem qo8(W:World)(hW:TxOK W)(F:List By)(D:FS)(hE:q4i W)(a j m:Nat)(hne:[a,j,m].Nodup)(h:Hp)(ha:h[a]?=some (some (cnC true j)))(hj:h[j]?=some (some (flP D)))(hm:h[m]?=some (some (q2q W F))):
  CallAll prog 7 [xd a,.string ⟨#[116,105,99,107,32,120]⟩] h λv ms=>v=.string (q4j 5)/\ms=[(j,flP D),(m,q2q W F)]:=by
 refine qam (qmd W hW F D ⟨#[116,105,99,107,32,120]⟩ [⟨#[116,105,99,107]⟩,⟨#[120]⟩] Q4P Q4P Q4N Q4N ⟨#[116,105,99,107]⟩ [⟨#[120]⟩] Q4N ⟨#[]⟩ false Q4X (λa j m o h hne ha hj hm=>q5i W hW F D _ Q4P Q4P Q4P Q4P a j m o h hne ha hj hm) (λV D' F'=>V=(q4j 5)/\D'=D/\F'=F) (λa j m k l cap o h hne hc ha hj hm hk hl=>?_) a j m hne h ha hj hm) λv ms hR=>?_
 .obtain⟨c,rfl⟩:∃c,cap=c+2:=⟨cap-2,by have hc:1+1<=cap:=hc;omega⟩;refine qam (qtl W hW F D hE _ (c+2) k 1 c Q4L Q4P Q4N a l m j (nd5 hne) o true h ha hl hk hm hj) λv ms hR=>?_
  exact Q1u
 .exact Q1v
theorem q0g(W:World)(hW:TxOK W)(F:List By)(D:FS)(ok:q4k D)(a j m:Nat)(hne:[a,j,m].Nodup)(h:Hp)(ha:h[a]?=some (some (cnC true j)))(hj:h[j]?=some (some (flP D)))(hm:h[m]?=some (some (q2q W F))):
  CallAll prog 7 [xd a,.string ⟨#[115,117,114,101]⟩] h λv ms=>v=.string q8a/\ms=[(j,flP D),(m,q2q W F)]:=
 qxv W hW F D ⟨#[115,117,114,101]⟩ [⟨#[115,117,114,101]⟩] Q4P Q4P Q4N Q4N ⟨#[115,117,114,101]⟩ Q4N _ (λa j m o h hne ha hj hm=>qwe W hW F D ok a j m o h hne ha hj hm) a j m hne h ha hj hm
theorem q2l(W:World)(hW:TxOK W)(F:List By)(D:FS)(hn:0<D.n)(hl:D.L.length<=100000)(a j m:Nat)(hne:[a,j,m].Nodup)(h:Hp)(ha:h[a]?=some (some (cnC true j)))(hj:h[j]?=some (some (flP D)))(hm:h[m]?=some (some (q2q W F))):
  CallAll prog 7 [xd a,.string ⟨#[97,105,114]⟩] h λv ms=>v=.string (q20 (D.L.length:Nat))/\ms=[(j,flP D),(m,q2q W F)]:=
 qxv W hW F D ⟨#[97,105,114]⟩ [⟨#[97,105,114]⟩] Q4P Q4P Q4N Q4N ⟨#[97,105,114]⟩ Q4N _ (λa j m o h hne ha hj hm=>q0b W hW F D hn hl a j m o h hne ha hj hm) a j m hne h ha hj hm
theorem qo9(W:World)(hW:TxOK W)(F:List By)(D:FS)(a j m:Nat)(hne:[a,j,m].Nodup)(h:Hp)(ha:h[a]?=some (some (cnC true j)))(hj:h[j]?=some (some (flP D)))(hm:h[m]?=some (some (q2q W F))):
  CallAll prog 7 [xd a,.string ⟨#[32,32,32]⟩] h λv ms=>v=.string ⟨#[]⟩/\ms=[(j,flP D),(m,q2q W F)]:=
 qxw W hW F D ⟨#[32,32,32]⟩ [⟨#[]⟩,⟨#[]⟩,⟨#[]⟩,⟨#[]⟩] Q4P Q4P Q4N Q4N Q4N a j m hne h ha hj hm
def q2m(s:Sl)(p q:Nat):Sl:=⟨s.b,s.o+(if s.c=p then 0 else p),q-p,s.c-p,none⟩
structure OldB(W:World)(s:Sl)(bs:List Int):Prop where
 sp:s.sp=none
 n:bs.length=s.n
 c:s.n<=s.c
 u8:∀j,j<bs.length->0<=bs.getD j 0/\bs.getD j 0<256
 cell:∀j,j<bs.length->W.cell? ⟨s.b,s.o+j,none⟩=some (.int .u8 (bs.getD j 0))
variable{bs:List Int}
theorem OldB.part{W:World}{s:Sl}(h:OldB W s bs){p q:Nat}(hpq:p<=q)(hq:q<=bs.length):OldB W (q2m s p q) ((bs.take q).drop p):=by
 have hl:((bs.take q).drop p).length=q-p:=by rw[List.length_drop,List.length_take,Nat.min_eq_left hq]
 have hg:∀j,j<q-p->((bs.take q).drop p).getD j 0=bs.getD (p+j) 0:=λj hj=>by
  rw[xH,xH,List.getElem?_drop,yP,if_pos Q4L]
 have hn:=h.n;have hc:=h.c;refine⟨rfl,hl,by show q-p<=s.c-p;omega,λj hj=>?_,λj hj=>?_⟩
 .rw[hl] at hj;rw[hg j hj];exact h.u8 _ Q4L
 .rw[hl] at hj;rw[hg j hj];have hne:s.c≠p:=by omega
  show W.cell? ⟨s.b,s.o+(if s.c=p then 0 else p)+j,none⟩=_;rw[if_neg hne,show s.o+p+j=s.o+(p+j) by omega];exact h.cell _ Q4L
open Go Go.RowKit Sx
def blk(n:Nat):ByteArray:=⟨(List.replicate n 32).toArray⟩
theorem qj8(n:Nat):(blk n).size=n:=by simp[blk,ByteArray.size]
theorem qtq(n:Nat):Lib.indexB (blk (n+1)) ⟨#[32]⟩=((0:Nat):Int):=by
 show Lib.index (List.replicate (n+1) 32) [32]=0;rw[List.replicate_succ];unfold Lib.index;rw[if_pos (by simp[List.isPrefixOf])]
theorem qpa(n:Nat):(blk (n+1)).extract (0+(ByteArray.mk #[32]).size) (blk (n+1)).size=blk n:=by
 rw[qj8];refine ByteArray.ext ?_;show((blk (n+1)).extract 1 (n+1)).data=(blk n).data;rw[ByteArray.data_extract];simp[blk]
theorem qh4:∀n:Nat,Lib.countB (blk n) ⟨#[32]⟩=n
 | 0=>by rw[Lib.countB_miss _ _ Q4N]
 | n+1=>by
  rw[Lib.countB_hit _ _ 0 Q4P (qtq n),qpa,qh4 n,Nat.add_comm]
theorem qmg:∀n:Nat,Lib.splitB ⟨#[32]⟩ 0 n (blk n)=List.replicate (n+1) ⟨#[]⟩
 | 0=>by rw[Lib.splitB_zero];rfl
 | n+1=>by
  rw[Lib.splitB_hit _ 0 n _ 0 (qtq n),qpa,qmg n,List.replicate_succ (n:=n+1),show(blk (n+1)).extract 0 (0+0)=⟨#[]⟩ from ByteArray.ext (by rw[ByteArray.data_extract];simp)]
theorem qtr(n:Nat):(List.replicate (n+1) (⟨#[]⟩:ByteArray)).filter full=[]:=by
 rw[List.filter_eq_nil_iff];intro a ha;rw[(List.mem_replicate.1 ha).2];decide
theorem q0h(n:Nat)(hn:n<=2500)(W:World)(hW:TxOK W)(F:List By)(D:FS)(a j m:Nat)(hne:[a,j,m].Nodup)(h:Hp)(ha:h[a]?=some (some (cnC true j)))(hj:h[j]?=some (some (flP D)))(hm:h[m]?=some (some (q2q W F))):
  CallAll prog 7 [xd a,.string (blk n)] h λv ms=>v=.string ⟨#[]⟩/\ms=[(j,flP D),(m,q2q W F)]:=
 qxw W hW F D (blk n) (List.replicate (n+1) ⟨#[]⟩) (by rw[qj8];exact hn) (by rw[List.length_replicate];omega) (by rw[qh4,List.length_replicate]) (by rw[qh4];exact qmg n) (qtr n) a j m hne h ha hj hm
theorem q0i{o:Oper}{st:St}{t d:TypeId}{x:Operand}{i s l c:Nat}{ci:Chunk}(ho:o.op=.convert t d x)(hx:EvTo x st (.slice (some ⟨i,0,some s⟩) l c))(hi:st.h[i]?=some (some ci))
  (ht:q2s tys t λ_ sd=>match sd with|.slice e=>q2s tys e λ_ ed=>ed=.int .u8|_=>False) (hd:q2s tys d λ_ dd=>dd=.string) (hl:l=bs.length) (hn:bs.length<=ci.n) (hc:∀j,j<bs.length->ci.f j=.int .u8 (bs.getD j 0)):OKs prog o st (.string (strOfNums bs)) [] [i]:=λst₂ hs2 hh _=>
 qat λX ρ a w Rl=>by
  subst hl;have hi2:st₂.h[i]?=some (some ci):=(hh i Q4X).trans hi;have hx':a.eval x=.slice (some ⟨(ρ i).1,(ρ i).2+0,none⟩) bs.length c:=((hs2 x Q4T _ hx).den Rl).self.symm;obtain⟨_,sd,_,h1,ht⟩:=qak tysOK ht;obtain⟨_,dd,_,h2,rfl⟩:=qak tysOK hd;have hcells:∀j,j<bs.length->w.cell? ⟨(ρ i).1,(ρ i).2+0+j,none⟩=some (.int .u8 (bs.getD j 0)):=λj hj=>by
   obtain⟨y,hy,hyd⟩:=Rl.heap.cell i ci hi2 j Q4L;rw[hc j hj] at hyd;rw[yb,hy,<-hyd.self];rfl
  split at ht
  .obtain⟨_,ed,_,h3,rfl⟩:=qak tysOK ht;refine⟨_,?_,Den.plain rfl⟩;simp only[execOp,ho,hx',Sem.run_bind,Sem.run_pure,Result.andThen_ok];rw[run_convert_bytes_arg w t _ h1 h3 (ρ i).1 ((ρ i).2+0) bs.length c bs rfl hcells d h2];rfl
  .exact ht.elim
abbrev blC(o:Bool)(L k:Nat):Chunk:=⟨o,L,[(0,L,.agg ⟨segL L λj=>.int .u8 (if j<k then 32 else 0)⟩)]⟩
theorem qj9{o:Bool}{L k j:Nat}(h:j<L):(blC o L k).f j=.int .u8 (if j<k then 32 else 0):=by
 refine Q1b ?_;exact qcd h
theorem jao{L k p:Nat}(h:k<L)(hp:p=k):Writes (blC true L k) p 1 (.int .u8 32) (blC true L (k+1)):=by
 subst hp;refine⟨rfl,h,rfl,λj hj=>?_⟩;have hj:j<L:=hj;rw[qj9 hj,qj9 hj];by_cases e:j=p
 .subst e;rw[if_pos Q4L,if_pos Q4L];rw[yO];rfl
 .rw[if_neg (show ¬ (p<=j/\j<p+1) by omega)];by_cases h1:j<p
  .rw[if_pos h1,if_pos Q4L]
  .rw[if_neg h1,if_neg Q4L]
theorem qxx{L:Nat}{o:Bool}:ChunkLe (blC o L 0) ⟨o,L,[(0,L,.agg ⟨segL L (repZ 1 (.int .u8 0))⟩)]⟩:=by
 refine ChunkLe.mk id (nlr _) λj hj=>?_
 have hj:j<L:=hj;rw[qj9 hj,if_neg (xO j)];refine Eq.symm ?_;refine Q1b ?_;exact(qcd hj).trans (by unfold repZ;rw[yH];rfl)
theorem q0j(L:Nat):strOfNums (List.replicate L 32)=blk L:=by
 unfold strOfNums blk;rw[List.map_replicate];rfl
theorem jap(W:World)(F:List By)(g:Rz):q8t W F (ftF g) [] where
 n:=show 1<=5/\5<=64 by decide
 h4:=show 0<=cfF 4/\cfF 4<=100 by decide
 h5:=show 0<=cfF 5/\cfF 5<=1000 by decide
 t:=show(0:Int)<=0/\(0:Int)<750000 by decide
 l:=show(0:Int)<=0/\(0:Int)<=1000000 by decide
 A:=.nil
 N:=λm hm=>by
  have hm:m<5:=hm;have hk:=qz4 cfF qxu Q4P 0 m 0 Q4P;have:NdK cfF 0 m true (q2x cfF m):=by
   unfold q2x;split
   .exact hk true _ _ _ _ _ λ_=>⟨ql8 m Q4L,by decide,by decide,by decide,by decide⟩
   .exact hk false 0 0 0 0 0 λh=>by cases h
  exact this.tick Q4P Q4L
theorem q2n{g:Rz}:∀j,j<5->¬ nowA (ftF g) j<((ftF g).s j).tx:=λj hj=>by
 have:((ftF g).s j).tx=0:=by
  show(q2x cfF j).tx=0;unfold q2x;split<;>rfl
 rw[this];show ¬ q6s _ _<0;unfold q6s;omega
theorem q2o(g:Rz):(tickZ (ftF g) [] 5).2.1.length=20:=
 qiv _ _ 5 _ _ _ _ _ (λ_ _=>rfl) (λj hj=>q2n (g:=g) j hj) Q4P 5 Q4P
theorem qe3(s:NSt)(now:Int):(tickS s now).T=s.T/\(tickS s now).fv=s.fv/\(tickS s now).fx=s.fx/\(tickS s now).fy=s.fy/\(tickS s now).fa=s.fa/\(tickS s now).fb=s.fb/\(tickS s now).fd=s.fd:=by
 unfold tickS;split<;>exact⟨rfl,rfl,rfl,rfl,rfl,rfl,rfl⟩
theorem qts{D:FS}{A:List Am}(L:List Ml)(ok:q4k D):q4k (q26 D L (tickZ D A D.n)):=by
 have key:∀m,m<5->(tickZ D A D.n).1 m=tickS (D.s m) (nowA D m):=λm hm=>by
  have hm2:m<D.n:=by rw[ok.n];exact hm
  rw[qma,qo6 _ _ _ _ _ hm2,if_pos (ok.on m hm)]
 refine⟨ok.n,ok.on,λm hm=>?_,λm hm=>?_,λm h1 h2=>?_⟩
 .show((tickZ D A D.n).1 m).T.E=[];rw[key m hm,(qe3 _ _).1];exact ok.E m hm
 .have h5:m<5:=by omega
  obtain⟨e1,e2,e3,e4,e5,e6,e7⟩:=qe3 (D.s m) (nowA D m);show((tickZ D A D.n).1 m).fv=true/\inP ((tickZ D A D.n).1 m).fx ((tickZ D A D.n).1 m).fy ((tickZ D A D.n).1 m).fa ((tickZ D A D.n).1 m).fb ((tickZ D A D.n).1 m).fd (D.P (m*2)) (D.P (m*2+1));rw[key m h5,e2,e3,e4,e5,e6,e7];exact ok.V m hm
 .show((tickZ D A D.n).1 m).fv=false;rw[key m h2,(qe3 _ _).2.1];exact ok.N m h1 h2
theorem qtt(g:Rz):q4k (ftF g) where
 n:=rfl
 on:=λ_ _=>rfl
 E:=λm _=>by
  show(q2x cfF m).T.E=[];unfold q2x;split<;>rfl
 V:=λm hm=>by
  show(q2x cfF m).fv=true/\inP (q2x cfF m).fx (q2x cfF m).fy (q2x cfF m).fa (q2x cfF m).fb (q2x cfF m).fd (q3m (m*2)) (q3m (m*2+1))
  match m,hm with
  | 0,_=>exact⟨rfl,by show inP 0 0 100 0 100 0 0;decide +kernel⟩
  | 1,_=>exact⟨rfl,by show inP 1000 0 100 0 100 1000 0;decide +kernel⟩
  | 2,_=>exact⟨rfl,by show inP 2000 0 100 0 100 2000 0;decide +kernel⟩
 N:=λm h1 _=>by
  show(q2x cfF m).fv=false;unfold q2x;rw[if_neg Q4L]
theorem qpb(W:World)(hW:TxOK W)(F:List By)(m:Nat)(h:Hp)(hm:h[m]?=some (some (q2q W F))):
  CallAll prog 8 [] h λv ms=>∃F',(∀e,e∈F->e∈F')/\v=.bool true/\ms=[(m,q2q W F')]:=by
 have key:=qar (G:=tys) (h:=h) (vs:=[]) (λ_:Unit=>True) (λ_=>_) (α:=List By) (λκ=>∀e,e∈F->e∈κ) (λκ=>.bool true) [⟨m,q2q W F,q2q W F,q2q W F⟩] (λκ=>[q2q W κ]) (λκ=>[]) [] tysOK q2p func8 Q4N (call8) ⟨hm,xb⟩ ⟨Q3R,xb⟩ Q4t Q51 Q41 (λκ _=>trivial) xb Opens.same ?_
 .exact Q1A
 rintro⟨⟩ -
 repeat' (refine Ba ?_;first|refine Q2R ?_|refine Q31 ?_|fail)
 refine Ba ?_
 refine Bg (qtf 1 2 Q4P _ Q4N Q4N) λv ms hR=>?_
 obtain⟨g,rfl,rfl⟩:=hR
 repeat' (refine Ba ?_;first|refine Q2R ?_|refine Q35 ?_|refine Q3b ?_|fail)
 have e0:q30 ((ftF g).s 0).fx ((ftF g).s 0).fy ((ftF g).s 0).fa ((ftF g).s 0).fb ((ftF g).s 0).fd=⟨#[48,44,48,47,49,48,48,44,48,44,49,48,48]⟩:=by show q30 0 0 100 0 100=_;decide +kernel
 have e1:q20 ((ftF g).P (4*2))++q3k++q20 ((ftF g).P (4*2+1))=⟨#[52,48,48,48,44,48]⟩:=by show q20 4000++q3k++q20 0=_;decide +kernel
 have e2:okB=⟨#[111,107]⟩:=rfl
 have e4:q8a=⟨#[121,101,115]⟩:=rfl
 refine Ba ?_
 refine Bg (qto W hW F (ftF g) (show 0<5 by decide) ((qtt g).E 0 Q4P) rfl Q5h Q5h Q5U Q5h Q5U 1 2 0 Q4P _ Q4N Q4N Q4N) λv ms hR=>?_
 obtain⟨rfl,rfl⟩:=hR
 repeat' (refine Ba ?_;first|refine Q2R ?_|refine Q35 ?_|refine Q3b ?_|fail)
 refine Ba ?_
 refine Bg (qtp W hW F (ftF g) (show 4<5 by decide) (by show q2z (4000);exact⟨by decide,by decide⟩) Q5h 1 2 0 Q4P _ Q4N Q4N Q4N) λv ms hR=>?_
 obtain⟨rfl,rfl⟩:=hR
 repeat' (refine Ba ?_;first|refine Q2R ?_|refine Q35 ?_|refine Q3b ?_|fail)
 refine Ba ?_
 refine Bg (q0f W hW F (ftF g) [] (jap W F g) 1 2 0 Q4P _ Q4N Q4N Q4N) λv ms hR=>?_
 obtain⟨L',B',hA,hB,rfl,rfl⟩:=hR
 have hL:L'.length=20:=hA.len.trans (q2o g)
 have e3:q20 ((q26 (ftF g) L' (tickZ (ftF g) [] (ftF g).n)).L.length:Nat)=⟨#[50,48]⟩:=by show q20 ((L'.length:Nat):Int)=_;rw[hL];decide +kernel
 repeat' (refine Ba ?_;first|refine Q2R ?_|refine Q35 ?_|refine Q3b ?_|fail)
 refine Ba ?_
 refine Bg (q2l W hW B' (q26 (ftF g) L' (tickZ (ftF g) [] (ftF g).n)) (show 0<5 by decide) (by show L'.length<=100000;omega) 1 2 0 Q4P _ Q4N Q4N Q4N) λv ms hR=>?_
 obtain⟨rfl,rfl⟩:=hR
 repeat' (refine Ba ?_;first|refine Q2R ?_|refine Q35 ?_|refine Q3b ?_|fail)
 refine Ba ?_
 refine Bg (q0g W hW B' (q26 (ftF g) L' (tickZ (ftF g) [] (ftF g).n)) (qts L' (qtt g)) 1 2 0 Q4P _ Q4N Q4N Q4N) λv ms hR=>?_
 obtain⟨rfl,rfl⟩:=hR
 repeat' (refine Ba ?_;first|refine Q2R ?_|refine Q35 ?_|refine Q3b ?_|fail)
 refine Ba ?_
 refine Bh ?_
 refine Bj B' ⟨hB,?_⟩
 refine Bb (.plain rfl) ?_
 refine Bb ⟨Q3T,xb⟩ ?_
 refine Bb xb ?_
 refine Bb Q45 ?_
 exact Bd
end Go.Proofs.YtggfpcfkbilkmaaGreatDoor


namespace Go.Proofs.YtggfpcfkbilkmaaGreatDoor.consoleNil
open Go Go.ChangeShapes Go.WideShapes Go.ChangeAt Go.RowKit Sx
theorem qwi(w:World):xa 9 #[.pointer none] w (.pointer none):=by
 refine qah (G:=tys) w tysOK q2p func9 Q4N Q4N Q4N ?_;exact Q1d
theorem qdp(h:Hp):qae prog 9 [.pointer none] h (.pointer none) [] []:=qan rfl rfl (call9 _) qwi
theorem qew{o:Oper}{st:St}{t d:TypeId}{x:Operand}{i s c L:Nat}(ho:o.op=.convert t d x)(hx:EvTo x st (.slice (some ⟨i,0,some s⟩) L c))(hi:st.h[i]?=some (some (blC true L L)))
  (ht:q2s tys t λ_ sd=>match sd with|.slice e=>q2s tys e λ_ ed=>ed=.int .u8|_=>False) (hd:q2s tys d λ_ dd=>dd=.string):OKs prog o st (.string (blk L)) [] [i]:=by
 rw[<-q0j]
 exact q0i ho hx hi ht hd (by rw[List.length_replicate]) (by rw[List.length_replicate];exact nlr _) λj hj=>by
  have hj:j<L:=by simpa using hj
  rw[qj9 hj,if_pos hj];simp[xH,hj]
theorem jaq(s:ByteArray)(n:Int)(hn : -9223372036854775808<=n/\n<=9223372036854775807)(W:World)(hW:TxOK W)(hE:q4i W):
  xa 4 #[.string s,xc n] W (.bool true):=by
 refine qs0 (vs:=[.string s,xc n]) W tysOK q2p func4 Q4N hW.pos rfl rfl ?_
 have hq:=q0s n 3 Q4P Q4P
 obtain⟨L,eL,hL1,hL2⟩:∃L:Nat,IntKind.i64.wrap (2500+IntKind.i64.wrap ((IntKind.u64.wrap n).tmod 3))=(L:Int)/\2500<=L/\L<=2502:=⟨(2500+IntKind.i64.wrap ((IntKind.u64.wrap n).tmod 3)).toNat,by rw[IntWalk.i64_in _ Q4L];omega,by omega,by omega⟩
 repeat' (refine Ba ?_;first|refine Q2R ?_|refine MakeN.mk L L eL eL (by show 1*L<=_;omega) Q4L (x6 L).symm ?_|fail)
 refine Ba ?_
 refine Br (α:=Nat) (λk=>k<=L) (λk=>L-k) (λk=>[(18,xc (k:Int))]) (λk=>[(1,blC true L k)]) 0 (xr _) ?_ ?_
 .exact Q1h
 intro k hk
 by_cases hlt:k<L
 .repeat' (refine Ba ?_;first|refine Q2R ?_|refine Q3g ?_|refine Bi k 1 rfl hlt ?_|refine N.store _ (jao hlt Q4L) ?_|fail)
  refine Ba ?_;refine N.next (k+1) ⟨by omega,by omega⟩ ?_;exact Q1h
 obtain rfl:k=L:=by omega
 clear hq
 have e5:q4j 5=⟨#[101,114,114,111,114,32,53]⟩:=by decide +kernel
 have e1:q4j 1=⟨#[101,114,114,111,114,32,49]⟩:=by decide +kernel
 by_cases h25:2500<k
 .refine Q0P ?_;refine Bg (qtf 2 3 Q4P _ Q4N Q4N) λv ms hR=>?_
  obtain⟨g,rfl,rfl⟩:=hR;refine Q01 ?_;refine Bg (q2f W hW [] (ftF g) (blk k) (by rw[qj8];exact h25) 2 3 0 Q4P _ Q4N Q4N Q4N) λv ms hR=>?_
  exact Q12
 .refine Q0P ?_;refine Bg (qtf 2 3 Q4P _ Q4N Q4N) λv ms hR=>?_
  obtain⟨g,rfl,rfl⟩:=hR;refine Q01 ?_;refine Bg (q0h k Q4L W hW [] (ftF g) 2 3 0 Q4P _ Q4N Q4N Q4N) λv ms hR=>?_
  exact Q12
end Go.Proofs.YtggfpcfkbilkmaaGreatDoor.consoleNil
