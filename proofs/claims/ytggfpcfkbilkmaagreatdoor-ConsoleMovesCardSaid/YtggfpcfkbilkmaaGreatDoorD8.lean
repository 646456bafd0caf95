/-
  console.Line: its words, and what is done with them.
-/
import Derived.Lib.SplitLaws
import Derived.Lib.CountLaws
import Derived.Test.YtggfpcfkbilkmaaGreatDoorD7
set_option linter.unusedVariables false
set_option linter.unusedSimpArgs false
set_option maxRecDepth 100000
set_option maxHeartbeats 20000000
theorem Go.Proofs.yM:type_of% @Int.mul_sub:=@Int.mul_sub
open Go.Proofs.Tryz
namespace Go.Proofs
section
variable{Z Y:Prop}
theorem Q01(h:Z:=by
 have st:=qdn ls k hlt;by_cases hf:full (qa8 ls k)=true
 .rw[if_pos hf] at st;refine Q13 ?_;refine AppN.mk1 (.agg ⟨[.string (qa8 ls k)]⟩) (qd8 rfl rfl) rfl (by show(qas ls k).length*1<=c;omega) (by show(qas ls k).length+1<=_;omega) (by show((qas ls k).length+1)*16<=_;omega) (rsC true c (qa8 (qas ls k++[qa8 ls k]))) (λh=>jb9 (show(qas ls k).length+1<=c from h) (xU _)) (λhr=>?_) (λhg cap2 hcap2=>?_)
  .refine Q11 ?_;refine Bl (α:=Nat×Option Nat) (k+1,some c) [(0,0),(1,1),(2,2),(3,3),(4,4)] ⟨⟨by show k+1<=_;omega,by show 1<=(qas ls (k+1)).length/\(qas ls (k+1)).length<=c;rw[st,xP];exact⟨by show 1<=_+1;omega,hr⟩⟩,by show ls.length-(k+1)<ls.length-k;omega⟩ ?_;rw[st];repeat' (refine Ba ?_;first|exact Bd|refine Q2P ?_|refine Bb (reS Q5G) ?_|refine Q3D ?_|refine Bb qja ?_|refine Bb (qcn rfl) ?_|refine Q2X ?_|refine Q37 ?_|fail)
  .refine Q11 ?_;refine Bl (α:=Nat×Option Nat) (k+1,some cap2) [(0,0),(1,1),(2,2),(3,3),(6,4)] ⟨⟨by show k+1<=_;omega,by show 1<=(qas ls (k+1)).length/\(qas ls (k+1)).length<=cap2;rw[st,xP];exact⟨by show 1<=_+1;omega,hcap2⟩⟩,by show ls.length-(k+1)<ls.length-k;omega⟩ ?_;rw[st];repeat' (refine Ba ?_;first|exact Bd|refine Q2P ?_|refine Bb (q9s rfl rfl (λj hj=>qd9 Q4P) hcap2) ?_|refine Bb (jdj Q5G) ?_|refine Q3D ?_|refine Bb (qcn rfl) ?_|refine Q2X ?_|refine Q37 ?_|fail)
 .rw[if_neg hf] at st;refine Q12 ?_;refine Bl (α:=Nat×Option Nat) (k+1,some c) [(0,0),(1,1),(2,2),(3,3),(4,4)] ⟨⟨by show k+1<=_;omega,by show 1<=(qas ls (k+1)).length/\(qas ls (k+1)).length<=c;rw[st];exact⟨hy1,hy2⟩⟩,by show ls.length-(k+1)<ls.length-k;omega⟩ ?_;rw[st];exact Q14):Z:=h
theorem Q04(h:Z:=by
 have hy:qas ls k=[]:=hy;by_cases hlt:k<ls.length
 .have st:=qdn ls k hlt;by_cases hf:full (qa8 ls k)=true
  .rw[if_pos hf,hy] at st;refine Q13 ?_;refine App0N.mk1 (.agg ⟨[.string (qa8 ls k)]⟩) (qd8 rfl rfl) Q4T Q4T Q4T λcap hcap=>?_
   refine Q11 ?_;refine Bl (α:=Nat×Option Nat) (k+1,some cap) [(0,0),(1,1),(2,2),(3,3),(5,4)] ⟨⟨by show k+1<=_;omega,by show 1<=(qas ls (k+1)).length/\(qas ls (k+1)).length<=cap;rw[st];exact⟨nlr _,hcap⟩⟩,by show ls.length-(k+1)<ls.length-k;omega⟩ ?_;rw[st];repeat' (refine Ba ?_;first|exact Bd|refine Q2P ?_|refine Bb (q9s rfl rfl (nzj) hcap) ?_|refine Q3D ?_|refine Bb (qcn rfl) ?_|refine Q2X ?_|refine Q37 ?_|fail)
  .rw[if_neg hf,hy] at st;refine Q12 ?_;refine Bl (α:=Nat×Option Nat) (k+1,none) [(0,0),(1,1),(2,2),(3,3)] ⟨⟨by show k+1<=_;omega,st⟩,by show ls.length-(k+1)<ls.length-k;omega⟩ ?_;exact Q14
 .exfalso;obtain rfl:k=ls.length:=by omega
  rw[qea,hws] at hy;cases hy):Z:=h
theorem Q09(h:Z:=by
 repeat' (refine Ba ?_;first|refine Q2L ?_|refine Q2N ?_|refine Be (beq_eq_false_iff_ne.2 (by show((wr.length+1:Nat):Int)≠1;omega)) ?_|fail)
 refine Ba ?_;refine N.altP ?_;refine Ba ?_;refine Bp [0,1,2,3,4,5,6,7] [(8,[9])] Q4U ?_;repeat' (refine Ba ?_;first|refine Q2J ?_|refine Bi 0 1 rfl (by show 0<wr.length+1;omega) ?_|refine Bk _ (q8c (j:=0) Q4P rfl) ?_|refine N.bndT 1 (wr.length+1) 1 rfl ⟨rfl,by omega⟩ ?_|fail)
 refine Ba ?_;refine qbp [0,1,2,4,5] _ Q53 (λh₂ hh=>hrun 0 1 2 4 5 c false h₂ Q4T hy2 Q4h Q4A ((hh 2 Q50).trans rfl) ((hh 4 Q50).trans rfl) ((hh 5 Q50).trans (by rw[<-quf c Q4P];rfl))) λv ms hR=>?_
 obtain⟨V,D',F',wd,hP,rfl,rfl⟩:=hR;refine⟨by simp,?_⟩;repeat' (refine Ba ?_;first|refine Q2L ?_|refine Q2N ?_|refine Q3a ?_|fail)
 refine Ba ?_;refine Bj ?_;refine Bh (V,D',F') ⟨hP,?_⟩;refine Bb (.plain rfl) ?_;refine Bb ⟨Q3R,Q3R,xb⟩ ?_;refine Bb xb ?_;refine Bb Q41 ?_;exact Bd):Z:=h
theorem Q0B(h:Z:=by
 refine qal key λv ms hR=>?_
 obtain⟨κ,hκ,rfl,rfl⟩:=hR;exact⟨rfl,rfl⟩):Z:=h
theorem Q0P(h:Z:=by repeat' (refine Ba ?_;first|exact Bd|refine Q2P ?_|refine Bb (qcn rfl) ?_|refine Q2X ?_|refine Q37 ?_|fail)):Z:=h
theorem Q12(k:Y)(h:Wr Y->Z:=by
 intro kQ;repeat' (refine Ba ?_;first|refine Q2J ?_|refine Q3t ?_|refine Q3K ?_|refine Be (by simpa using hf) ?_|fail)
 refine Ba ?_;exact kQ.o):Z:=h ⟨k⟩
theorem Q13(k:Y)(h:Wr Y->Z:=by
 intro kQ;repeat' (refine Ba ?_;first|refine Q2J ?_|refine Q3t ?_|refine Q3K ?_|refine Bf hf ?_|fail)
 refine Ba ?_;exact kQ.o):Z:=h ⟨k⟩
theorem Q14(h:Z:=by repeat' (refine Ba ?_;first|exact Bd|refine Q2P ?_|refine Q3D ?_|refine Bb qja ?_|refine Bb (qcn rfl) ?_|refine Q2X ?_|refine Q37 ?_|fail)):Z:=h
theorem Q1p(h:Z:=by
 obtain⟨rfl,rfl⟩:=hR;exact⟨_,_,_,_,⟨rfl,rfl,rfl⟩,rfl,rfl⟩):Z:=h
theorem Q1q(h:Z:=by
 obtain⟨V,D',F',⟨rfl,rfl,rfl⟩,rfl,rfl⟩:=hR;exact⟨rfl,rfl⟩):Z:=h
theorem Q1z(h:Z:=by
 unfold q33;split
 .exact hk true _ _ _ _ _ λ_=>⟨qi6 m Q4P,by decide,by decide,by decide,by decide⟩
 .exact hk false 0 0 0 0 0 λh=>by cases h):Z:=h
theorem Q2X(k:Y)(h:Wr Y->Z:=by intro kQ;(first|refine Bb ⟨id,nlr _,lt2 Q5a (.plain rfl)⟩ ?_|refine Bb ⟨id,nlr _,nzj⟩ ?_|refine Bb (.plain rfl) ?_|refine Bb (.one (.ptr rfl)) ?_|fail);exact kQ.o):Z:=h ⟨k⟩
theorem Q33(k:Y)(h:Wr Y->Z:=by intro kQ;(first|refine Bm _ (qbd _ _ _ _) ?_|refine Bf (xg e0) ?_|refine Bf (xg e1) ?_|refine Bf (xg e3) ?_|fail);exact kQ.o):Z:=h ⟨k⟩
theorem Q34(k:Y)(h:Wr Y->Z:=by intro kQ;(first|refine Bm _ (qbd _ _ _ _) ?_|refine Bc (q9q W hW F S cap 2 p 4 (c+4) Q4P Q4P 4 ⟨by omega,by omega⟩ h0 1 4 Q4T Q4T Q4T false _ Q4R Q4R Q4R) ?_|refine Bc (qkr W hW F S cap 2 (p+1) 2 (c+2) Q4P Q4P x y ⟨by omega,by omega⟩ ⟨by omega,by omega⟩ h1 h2 1 4 Q4T Q4T Q4T false _ Q4R Q4R Q4R) ?_|refine Bc (qkr W hW F S cap 2 (p+3) 0 c Q4P Q4P x y ⟨by omega,by omega⟩ ⟨by omega,by omega⟩ h3 h4 1 4 Q4T Q4T Q4T false _ Q4R Q4R Q4R) ?_|fail);exact kQ.o):Z:=h ⟨k⟩
theorem Q39(k:Y)(h:Wr Y->Z:=by intro kQ;(first|refine Bm _ (qbd _ _ _ _) ?_|refine Bm _ (qgm _ _ _ _) ?_|refine Be (by rw[xg e10];rfl) ?_|fail);exact kQ.o):Z:=h ⟨k⟩
theorem Q3e(k:Y)(h:Wr Y->Z:=by intro kQ;(first|refine Bm _ (qbd _ _ _ _) ?_|refine Bc (qf3 W hW q.F q.x Q5d 0 _ Q4R) ?_|refine Bc (qf3 W hW q.F q.y Q5d 0 _ Q4R) ?_|refine Bm _ (qif _ _ _ _ Q5F) ?_|refine Bf (xg e6) ?_|fail);exact kQ.o):Z:=h ⟨k⟩
theorem Q3i(k:Y)(h:Wr Y->Z:=by intro kQ;(first|refine N.op (qjv (sz:=2) (g:=o0+q.k*2) tysOK rfl rfl (λ_=>rfl) rfl (by exact rfl) Q4P Q4P (by simp;first|done|fail)) ?_|refine N.op (qmr (i:=0) (F:=q.F) (ds:=[xc (z q.k).1,xc (z q.k).2]) (cs:=[xc (z q.k).1,xc (z q.k).2]) rfl rfl rfl (by exact⟨rfl,rfl⟩) (qyz _ _) rfl (hz q.k hi)) ?_|fail);exact kQ.o):Z:=h ⟨k⟩
theorem Q3n(k:Y)(h:Wr Y->Z:=by intro kQ;(first|refine Bm _ (qbd _ _ _ _) ?_|fail);exact kQ.o):Z:=h ⟨k⟩
theorem Q3D(k:Y)(h:Wr Y->Z:=by intro kQ;(first|refine Bb (reI Q5S) ?_|fail);exact kQ.o):Z:=h ⟨k⟩
theorem Q3F(k:Y)(h:Wr Y->Z:=by intro kQ;(first|refine Bc (q9r S cap 2 p 0 c false 1 false _ Q4R Q4R) ?_|fail);exact kQ.o):Z:=h ⟨k⟩
theorem Q3H(k:Y)(h:Wr Y->Z:=by intro kQ;(first|refine Bk _ (q8c (j:=0) Q4P rfl) ?_|refine Bc (hask 0 1 2 false _ Q4T Q4R Q4R Q4R) ?_|fail);exact kQ.o):Z:=h ⟨k⟩
theorem Q3K(k:Y)(h:Wr Y->Z:=by intro kQ;(first|refine Bi k 1 rfl Q4P ?_|refine Bk _ (qgt rfl Q4P Q4P) ?_|refine Bm _ (qdo _ _ _) ?_|fail);exact kQ.o):Z:=h ⟨k⟩
theorem Q3N(h:Z:=by first|exact ⟨⟨λh=>Q5j,nlr _,lt2 Q5a (.plain rfl)⟩,⟨λh=>⟨rfl,nlr _⟩,nlr _,lt2 Q5a (.plain rfl)⟩,⟨λh=>Q5j,nlr _,q8b⟩,⟨λh=>⟨rfl,nlr _⟩,nlr _,nzj⟩,⟨λh=>⟨rfl,nlr _⟩,nlr _,nzj⟩,xb⟩|fail):Z:=h
theorem Q3V(h:Z:=by first|exact ⟨⟨.inl rfl,.inl rfl,.inl rfl,.inr ⟨_,rfl,rfl⟩,.inr ⟨_,rfl,rfl⟩,xb⟩,xb⟩|fail):Z:=h
theorem Q3X(h:Z:=by first|exact ⟨.inl rfl,.inl rfl,.inl rfl,.inr ⟨rfl,rfl⟩,.inr ⟨rfl,rfl⟩,xb⟩|fail):Z:=h
theorem Q41(h:Z:=by first|exact ⟨⟨.inl rfl,.inr ⟨_,rfl,rfl⟩,.inr ⟨_,rfl,rfl⟩,xb⟩,xb⟩|fail):Z:=h
theorem Q43(h:Z:=by first|exact ⟨.inl rfl,.inr ⟨rfl,rfl⟩,.inr ⟨rfl,rfl⟩,xb⟩|fail):Z:=h
theorem Q4c(h:Z:=by first|exact qf4 W hW q.F q.D hI.mv.n (by rw[hI.P.1];have:=hI.b;have:=hI.k;exact⟨by omega,by omega⟩) (by rw[hI.P.2];have:=hI.b;have:=hI.k;exact⟨by omega,by omega⟩) 1 2 0 Q4T _ Q4R Q4R Q4R|fail):Z:=h
theorem Q4j(h:Z:=by first|exact ⟨.ptr rfl,.plain rfl,.ptr rfl,xb⟩|fail):Z:=h
theorem Q4J(h:Z:=by first|exact que 1 2 Q4T _ Q4R Q4R|fail):Z:=h
theorem Q4O(h:Z:=by first|exact qko W hW q.F q.D hI.sure 1 2 0 Q4T _ Q4R Q4R Q4R|fail):Z:=h
theorem Q56(h:Z:=by simp[Apart,n01,n02,n03,n04,n12,n13,n14,n23,n24,n34]):Z:=h
theorem Q5b(h:Z:=by rw[ok.n];decide):Z:=h
theorem Q5d(h:Z:=by have:=hI.b;have:=hI.k;exact⟨by omega,by omega⟩):Z:=h
theorem Q5m(h:Z:=by show q35 (0);exact⟨by decide,by decide⟩):Z:=h
theorem Q5A(h:Z:=by simp[Apart,n01,n02,n12]):Z:=h
theorem Q5F(h:Z:=by simp only[ByteArray.size_append,lc];omega):Z:=h
theorem Q5V(h:Z:=by simp[hj,hm]):Z:=h
theorem Q61(h:Z:=by show q35 (100);exact⟨by decide,by decide⟩):Z:=h
end
end Go.Proofs

namespace Go.Proofs.YtggfpcfkbilkmaaGreatDoor
open Go Go.RowKit Sx
def full(b:ByteArray):Bool:=b.size != 0
def qas(ls:List ByteArray)(j:Nat):List ByteArray:=(ls.take j).filter full
def qa8(l:List ByteArray)(p:Nat):ByteArray:=l.getD p ⟨#[]⟩
theorem qea(ls:List ByteArray):qas ls ls.length=ls.filter full:=by unfold qas;rw[List.take_length]
theorem qdn(ls:List ByteArray)(j:Nat)(hj:j<ls.length):qas ls (j+1)=if full (qa8 ls j) then qas ls j++[qa8 ls j] else qas ls j:=by
 unfold qas qa8;rw[List.take_add_one,List.filter_append,xL,xn hj];simp only[yw,Option.toList_some,List.filter_cons,List.filter_nil];split<;>simp
variable{ix:Lz}
theorem reI{k:IntKind}{a b:Int}(h:a=b):Re ix (.int k a) (.int k b):=by subst h;exact .plain rfl
theorem reS{r:Lz}{s s' a b c:Nat}(h:a=b):Re ((0,0)::(1,1)::(2,2)::(3,3)::(4,4)::r) (.slice (some ⟨4,0,some s⟩) a c) (.slice (some ⟨4,0,some s'⟩) b c):=by subst h;exact .one (.slice rfl)
theorem jdj{r:Lz}{s s' a b c:Nat}(h:a=b):Re ((0,0)::(1,1)::(2,2)::(3,3)::(6,4)::r) (.slice (some ⟨4,0,some s⟩) a c) (.slice (some ⟨6,0,some s'⟩) b c):=by subst h;exact .one (.slice rfl)
theorem quf(c:Nat)(hc:1<=c):0+(if c=1 then 0 else 1*1)=nxt 0 (c-1):=by
 match c,hc with
 | 1,_=>rfl
 | n+2,_=>rw[if_neg Q4P];rfl
theorem qi9(l:List ByteArray)(x:ByteArray)(j:Nat):qa8 (l++[x]) j=if j=l.length then x else qa8 l j:=by
 unfold qa8;rw[xL,xL,List.getElem?_append];by_cases h:j<l.length
 .rw[if_pos h,if_neg Q4P]
 .rw[if_neg h];by_cases e:j=l.length
  .subst e;simp
  .rw[if_neg e,yA Q5q,yA Q4P]
theorem qqs(l:List ByteArray)(j:Nat)(h:l.length<=j):qa8 l j=⟨#[]⟩:=by
 unfold qa8;rw[xL,yA h];rfl
variable{l:List ByteArray}{x:ByteArray}
theorem jb9{cap p:Nat}(h:l.length<cap)(hp:p=l.length):Writes (rsC true cap (qa8 l)) p 1 (.agg ⟨[.string x]⟩) (rsC true cap (qa8 (l++[x]))):=by
 subst hp;refine⟨rfl,h,rfl,λj hj=>?_⟩;have hj:j<cap:=hj;rw[qd9 hj,qd9 hj,qi9];by_cases e:j=l.length
 .rw[if_pos e,if_pos Q4P,e,Nat.sub_self];rfl
 .rw[if_neg e,if_neg Q4P]
theorem q9s{ci:Chunk}{cap k:Nat}{z:Value}(hk:k=l.length)(hz:z=.string ⟨#[]⟩)(hc:∀j,j<l.length->ci.f j=.string (qa8 l j))(h:l.length+1<=cap):ChunkReLe ix (rsC true cap (qa8 (l++[x]))) (grown ci k 1 1 (.agg ⟨[.string x]⟩) z cap):=by
 subst hz hk;refine⟨λ_=>rfl,by show cap<=cap*1;omega,λj hj=>?_⟩;have hj:j<cap:=hj;have e:(grown ci l.length 1 1 (.agg ⟨[.string x]⟩) (.string ⟨#[]⟩) cap).f j=(rsC true cap (qa8 (l++[x]))).f j:=by
  rw[qd9 hj,qi9];by_cases h1:j<l.length
  .rw[qdw Q4P,hc j h1,if_neg Q4P]
  .by_cases h2:j=l.length
   .have:=qdx (ci:=ci) (l:=l.length) (m:=1) (size:=1) (cap:=cap) (v:=.agg ⟨[.string x]⟩) (z:=.string ⟨#[]⟩) (j:=0) Q4P;rw[show l.length*1+0=j by omega] at this;rw[this,if_pos h2];rfl
   .rw[qc0 Q4P Q4P,if_neg h2,qqs _ _ Q4P];unfold repZ;rw[Nat.mod_one];rfl
 rw[e,qd9 hj];exact .plain rfl
theorem qja{cap:Nat}{S:Nat->ByteArray}:ChunkReLe ix (rsC true cap S) (rsC true cap S):=
 ⟨id,nlr _,λj hj=>q8b j hj⟩
variable{ls:List ByteArray}
theorem qcn{n:Nat}(hn:n=ls.length):ChunkReLe ix ⟨true,n,[(0,n,.agg ⟨ls.map .string⟩)]⟩ ⟨true,n,[(0,n,.agg ⟨ls.map .string⟩)]⟩:=
 ⟨id,nlr _,λj hj=>.plain (by
  have hj:j<n:=hj;show qa2 (qa1 _ _)=true;rw[qan,if_pos Q4P];simp only[cellIn,xL];rw[xN,xn Q4P];rfl)⟩
theorem qgt{n j p:Nat}(hn:n=ls.length)(h:j<n)(hp:p=j):Reads ⟨true,n,[(0,n,.agg ⟨ls.map .string⟩)]⟩ p false 1 (.string (qa8 ls j)):=by
 subst hp;refine⟨h,rfl,?_⟩;refine Q1b ?_;simp only[cellIn,xL,qa8];rw[show p-0=p from rfl,xN,xn Q4P];rfl
theorem qdo(x y:Operand)(b:ByteArray):BinIs prog .neq 9 x y (.string b) (.string ⟨#[]⟩) (.bool (full b)):=by
 have:=qgm x y b ⟨#[]⟩;have e:(!decide (b=⟨#[]⟩))=full b:=by
  unfold full;by_cases h:b=⟨#[]⟩
  .subst h;rfl
  .rw[xj h];have:b.size≠0:=λh0=>h (ByteArray.ext (Array.eq_empty_of_size_eq_zero h0))
   simp[this]
 rwa[e] at this
theorem qpz(ls:List ByteArray)(j:Nat):(qas ls j).length<=j:=by
 unfold qas;exact xH (List.length_filter_le _ _) (by rw[List.length_take];omega)
theorem qmu(W:World)(hW:TxOK W)(F:List By)(D:FS)(s:ByteArray)(ls:List ByteArray)(hs:s.size<=2500)(hl:ls.length<=2501)(h1:Lib.countB s ⟨#[32]⟩+1=ls.length)(h2:Lib.splitB ⟨#[32]⟩ 0 (Lib.countB s ⟨#[32]⟩) s=ls)(wa:ByteArray)(wr:List ByteArray)(hws:ls.filter full=wa::wr)(t:ByteArray)(b:Bool)(hb:¬ (b=true/\wr=[]))
  (hask:∀(a j m:Nat)(o:Bool)(h:Hp),[a,j,m].Nodup->h[a]?=some (some (cnC o j))->h[j]?=some (some (flP D))->h[m]?=some (some (q3v W F))->qae prog 15 [xd a,.string wa] h (.tuple #[.string t,.bool b]) [] [a,j,m])
  (P:ByteArray->FS->List By->Prop)
  (hrun:∀(a j m k l cap:Nat)(o:Bool)(h:Hp),[a,j,m,k,l].Nodup->wr.length+1<=cap->h[a]?=some (some (cnC o j))->h[j]?=some (some (flP D))->h[m]?=some (some (q3v W F))->h[k]?=some (some (rsC true cap (qa8 (wa::wr))))->h[l]?=some (some (wdC true k (nxt 0 (cap-1)) wr.length (cap-1) false))->
   CallAll prog 16 [xd a,.string wa,xd l] h λv ms=>∃V D' F' wd,P V D' F'/\v=.string V/\ms=[(l,wd),(j,flP D'),(m,q3v W F')])
  (a j m:Nat) (hne:[a,j,m].Nodup) (h:Hp) (ha:h[a]?=some (some (cnC true j))) (hj:h[j]?=some (some (flP D))) (hm:h[m]?=some (some (q3v W F))) :
  CallAll prog 7 [xd a,.string s] h λv ms=>∃V D' F',P V D' F'/\v=.string V/\ms=[(j,flP D'),(m,q3v W F')]:=by
 simp only[xz,xf,xA,or_false,not_or,xE,and_true,xv] at hne
 have key:=qaq (G:=tys) (h:=h) (vs:=[xd a,.string s]) (λ_:Unit=>True) (λ_=>_) (α:=ByteArray×FS×List By) (λκ=>P κ.1 κ.2.1 κ.2.2) (λκ=>.string κ.1) [⟨a,cnC true j,cnC false 1,⟨false,0,[]⟩⟩,⟨j,flP D,flP D,flP D⟩,⟨m,q3v W F,q3v W F,q3v W F⟩] (λκ=>[⟨false,0,[]⟩,flP κ.2.1,q3v W κ.2.2]) (λκ=>[]) [xd 0,.string s] tysOK mixed func7 Q4R (call7) ⟨ha,hj,hm,xb⟩ ⟨Q3O,Q3P,Q3P,xb⟩ (λκ _=>⟨Q3O,Q3P,Q3P,xb⟩) (by simp[Apart, *]) Q43 (λκ _=>trivial) Q3Y Opens.same ?_
 .refine qal key λv ms hR=>?_
  obtain⟨κ,hκ,rfl,rfl⟩:=hR;exact⟨κ.1,κ.2.1,κ.2.2,hκ,rfl,rfl⟩
 rintro⟨⟩ -
 repeat' (refine Ba ?_;first|refine Q2J ?_|refine N.lenS rfl ?_|refine Q35 ?_|refine Bc (qub W hW F s ls Q4P h1 h2 2 3 _ Q4R Q4R) ?_|fail)
 refine Ba ?_
 refine Bo (α:=Nat×Option Nat) (λx=>x.1<=ls.length/\match x.2 with
  | none=>qas ls x.1=[]
  | some c=>1<=(qas ls x.1).length/\(qas ls x.1).length<=c) (λx=>ls.length-x.1) (λx=>match x.2 with
  | none=>[(19,.int .i64 (x.1:Int)),(5,.slice none 0 0)]
  | some c=>[(19,.int .i64 (x.1:Int)),(5,.slice (some ⟨4,0,some 0⟩) (qas ls x.1).length c)]) (λx=>match x.2 with
  | none=>[]
  | some c=>[(4,rsC true c (qa8 (qas ls x.1)))]) (0,none) [(0,0),(1,1),(2,2),(3,3)] ⟨xo _,rfl⟩ ?_ ?_
 .exact Q0P
 rintro⟨k,y⟩ ⟨hk,hy⟩
 have hk:k<=ls.length:=hk
 have wl:=qpz ls k
 cases y with
 | none=>
  exact Q04
 | some c=>
  obtain⟨hy1,hy2⟩:=hy;have hy1:1<=(qas ls k).length:=hy1;have hy2:(qas ls k).length<=c:=hy2;by_cases hlt:k<ls.length
  .exact Q01
  .obtain rfl:k=ls.length:=by omega
   rw[qea,hws] at hy1 hy2 ⊢;have hy2:wr.length+1<=c:=hy2;repeat' (refine Ba ?_;first|refine Q2J ?_|refine Q35 ?_|refine Be (beq_eq_false_iff_ne.2 (by show((wr.length+1:Nat):Int)≠0;omega)) ?_|refine Bi 0 1 rfl (by show 0<wr.length+1;omega) ?_|refine Q3H ?_|fail)
   have ht:∀(x:ByteArray)(y:Bool),x=t->True:=λ_ _ _=>trivial
   cases hbb:b with
   | true=>
    have hwr:wr≠[]:=λh=>hb ⟨hbb,h⟩
    have hwl:0<wr.length:=List.length_pos_iff.2 hwr;exact Q09
   | false=>
    exact Q09
theorem qyy(W:World)(hW:TxOK W)(F:List By)(D:FS)(s:ByteArray)(ls:List ByteArray)(hs:s.size<=2500)(hl:ls.length<=2501)(h1:Lib.countB s ⟨#[32]⟩+1=ls.length)(h2:Lib.splitB ⟨#[32]⟩ 0 (Lib.countB s ⟨#[32]⟩) s=ls)(wa:ByteArray)(hws:ls.filter full=[wa])(t:ByteArray)
  (hask:∀(a j m:Nat)(o:Bool)(h:Hp),[a,j,m].Nodup->h[a]?=some (some (cnC o j))->h[j]?=some (some (flP D))->h[m]?=some (some (q3v W F))->qae prog 15 [xd a,.string wa] h (.tuple #[.string t,.bool true]) [] [a,j,m])
  (a j m:Nat) (hne:[a,j,m].Nodup) (h:Hp) (ha:h[a]?=some (some (cnC true j))) (hj:h[j]?=some (some (flP D))) (hm:h[m]?=some (some (q3v W F))) :
  CallAll prog 7 [xd a,.string s] h λv ms=>v=.string t/\ms=[(j,flP D),(m,q3v W F)]:=by
 simp only[xz,xf,xA,or_false,not_or,xE,and_true,xv] at hne
 have key:=qaq (G:=tys) (h:=h) (vs:=[xd a,.string s]) (λ_:Unit=>True) (λ_=>_) (α:=Unit) (λκ=>True) (λκ=>.string t) [⟨a,cnC true j,cnC false 1,⟨false,0,[]⟩⟩,⟨j,flP D,flP D,flP D⟩,⟨m,q3v W F,q3v W F,q3v W F⟩] (λκ=>[⟨false,0,[]⟩,flP D,q3v W F]) (λκ=>[]) [xd 0,.string s] tysOK mixed func7 Q4R (call7) ⟨ha,hj,hm,xb⟩ ⟨Q3O,Q3P,Q3P,xb⟩ (λκ _=>⟨Q3O,Q3P,Q3P,xb⟩) (by simp[Apart, *]) Q43 (λκ _=>trivial) Q3Y Opens.same ?_
 .exact Q0B
 rintro⟨⟩ -
 repeat' (refine Ba ?_;first|refine Q2J ?_|refine N.lenS rfl ?_|refine Q35 ?_|refine Bc (qub W hW F s ls Q4P h1 h2 2 3 _ Q4R Q4R) ?_|fail)
 refine Ba ?_
 refine Bo (α:=Nat×Option Nat) (λx=>x.1<=ls.length/\match x.2 with
  | none=>qas ls x.1=[]
  | some c=>1<=(qas ls x.1).length/\(qas ls x.1).length<=c) (λx=>ls.length-x.1) (λx=>match x.2 with
  | none=>[(19,.int .i64 (x.1:Int)),(5,.slice none 0 0)]
  | some c=>[(19,.int .i64 (x.1:Int)),(5,.slice (some ⟨4,0,some 0⟩) (qas ls x.1).length c)]) (λx=>match x.2 with
  | none=>[]
  | some c=>[(4,rsC true c (qa8 (qas ls x.1)))]) (0,none) [(0,0),(1,1),(2,2),(3,3)] ⟨xo _,rfl⟩ ?_ ?_
 .exact Q0P
 rintro⟨k,y⟩ ⟨hk,hy⟩
 have hk:k<=ls.length:=hk
 have wl:=qpz ls k
 cases y with
 | none=>
  exact Q04
 | some c=>
  obtain⟨hy1,hy2⟩:=hy;have hy1:1<=(qas ls k).length:=hy1;have hy2:(qas ls k).length<=c:=hy2;by_cases hlt:k<ls.length
  .exact Q01
  .obtain rfl:k=ls.length:=by omega
   rw[qea,hws] at hy1 hy2 ⊢;have hy2:0+1<=c:=hy2;repeat' (refine Ba ?_;first|refine Q2J ?_|refine Q35 ?_|refine Be (beq_eq_false_iff_ne.2 (by show((0+1:Nat):Int)≠0;omega)) ?_|refine Bi 0 1 rfl (by show 0<0+1;omega) ?_|refine Q3H ?_|refine Bf (by show(((0+1:Nat):Int)==1)=true;rfl) ?_|fail)
   refine Ba ?_;refine Bj ?_;refine Bh () ⟨xb,?_⟩;refine Bb (.plain rfl) ?_;refine Bb ⟨Q3R,Q3R,xb⟩ ?_;refine Bb xb ?_;refine Bb Q41 ?_;exact Bd
theorem qxe(F:FS)(m:Nat)(hm:m<F.n)(i:Nat)(h:Hp)(hi:h[i]?=some (some (flP F))):
  CallAll prog 62 [xd i,xc (m:Int)] h λv ms=>v=.tuple #[.agg #[xc (F.P (m*2)),xc (F.P (m*2+1))],.bool true]/\ms=[(i,flP F)]:=by
 have key:=qaq (G:=tys) (h:=h) (vs:=[xd i,.int .i64 (m:Int)]) (q5b F) (flH F) (α:=Unit) (λκ=>True) (λκ=>.tuple #[.agg #[.int .i64 (F.P (m*2)),.int .i64 (F.P (m*2+1))],.bool true]) [⟨i,flP F,flP F,flP F⟩] (λκ=>[flP F]) (λκ=>[]) [xd 0,.int .i64 (m:Int)] tysOK mixed func62 Q4R (call62) ⟨hi,xb⟩ ⟨Q3P,xb⟩ Q4r Q55 Q40 (λκ _=>trivial) Q3Y qa3 ?_
 .exact Q0N
 intro β hβ
 repeat' (refine Ba ?_;first|refine Q2J ?_|refine Bc (qki F.C F.n β.1 1 2 3 F.P F.M F.tm F.st true true true m _ Q4R Q4R Q4R hm) ?_|fail)
 refine Ba ?_
 refine qgl F β Q4P hβ rfl ⟨_,rfl,qib F,qao⟩ Q4k (λρ ρ' _=>by simp[den,den2,den1,den0,q4a]) ?_
 refine Bh () ⟨xb,?_⟩
 refine Bb (.plain rfl) ?_
 refine Bb ⟨Q3R,xb⟩ ?_
 refine Bb xb ?_
 refine Bb Q42 ?_
 exact Bd
theorem qug(F:FS)(m:Nat)(hm:m<F.n)(i:Nat)(h:Hp)(hi:h[i]?=some (some (flP F))):qae prog 62 [xd i,xc (m:Int)] h (.tuple #[.agg #[xc (F.P (m*2)),xc (F.P (m*2+1))],.bool true]) [(i,flP F)] []:=
 qde λh₂ _ h2=>qxe F m hm i h₂ ((h2 _ (yp ..)).trans hi)
theorem jca(F:FS)(m:Nat)(hm:m<F.n)(i:Nat)(h:Hp)(hi:h[i]?=some (some (flP F))):
  CallAll prog 65 [xd i,xc (m:Int)] h λv ms=>v=.bool (F.on m)/\ms=[(i,flP F)]:=by
 have key:=qaq (G:=tys) (h:=h) (vs:=[xd i,.int .i64 (m:Int)]) (q5b F) (flH F) (α:=Unit) (λκ=>True) (λκ=>.bool (F.on m)) [⟨i,flP F,flP F,flP F⟩] (λκ=>[flP F]) (λκ=>[]) [xd 0,.int .i64 (m:Int)] tysOK mixed func65 Q4R (call65) ⟨hi,xb⟩ ⟨Q3P,xb⟩ Q4r Q55 Q40 (λκ _=>trivial) Q3Y qa3 ?_
 .exact Q0N
 intro β hβ
 repeat' (refine Ba ?_;first|refine Q2J ?_|refine Bc (qyw F.C F.n β.2 1 6 4 0 5 m F.lost hm (λ_=>.bool true) _ Q4R ⟨_,rfl⟩ ⟨_,rfl⟩ ⟨_,rfl⟩ ⟨_,rfl⟩ Q4T) ?_|refine Bi m 1 rfl hm ?_|refine Bk _ (q7e hm) ?_|fail)
 refine Ba ?_
 refine qgl F β Q4P hβ rfl ⟨_,rfl,qib F,qao⟩ Q4k (λρ ρ' _=>by simp[den,den2,den1,den0,q4a]) ?_
 refine Bh () ⟨xb,?_⟩
 refine Bb (.plain rfl) ?_
 refine Bb ⟨Q3R,xb⟩ ?_
 refine Bb xb ?_
 refine Bb Q42 ?_
 exact Bd
theorem q3g(F:FS)(m:Nat)(hm:m<F.n)(i:Nat)(h:Hp)(hi:h[i]?=some (some (flP F))):qae prog 65 [xd i,xc (m:Int)] h (.bool (F.on m)) [(i,flP F)] []:=
 qde λh₂ _ h2=>jca F m hm i h₂ ((h2 _ (yp ..)).trans hi)
theorem qd3(F:FS)(m:Nat)(hm:m<F.n)(x:Int)(hx:x=(m:Int))(i:Nat)(h:Hp)(hi:h[i]?=some (some (flP F))):qae prog 62 [xd i,xc x] h (.tuple #[.agg #[xc (F.P (m*2)),xc (F.P (m*2+1))],.bool true]) [(i,flP F)] []:=by
 subst hx;exact qug F m hm i h hi
theorem qmv(F:FS)(m:Nat)(hm:m<F.n)(x:Int)(hx:x=(m:Int))(i:Nat)(h:Hp)(hi:h[i]?=some (some (flP F))):qae prog 65 [xd i,xc x] h (.bool (F.on m)) [(i,flP F)] []:=by
 subst hx;exact q3g F m hm i h hi
theorem qeb(F:FS)(m:Nat)(hm:m<F.n)(x:Int)(hx:x=(m:Int))(i:Nat)(h:Hp)(hi:h[i]?=some (some (flP F))):qae prog 63 [xd i,xc x] h (q3z (F.g m)) [(i,flP F)] []:=by
 subst hx;exact qw8 F m hm i h hi
structure q4z(D:FS):Prop where
 n:D.n=5
 on:∀m,m<5->D.on m=true
 E:∀m,m<5->(D.s m).T.E=[]
 V:∀m,m<3->(D.s m).fv=true/\inP (D.s m).fx (D.s m).fy (D.s m).fa (D.s m).fb (D.s m).fd (D.P (m*2)) (D.P (m*2+1))
 N:∀m,3<=m->m<5->(D.s m).fv=false
def q8e:ByteArray:=⟨#[121,101,115]⟩
theorem jcb(D:FS)(ok:q4z D)(a j:Nat)(haj:a≠j)(o:Bool)(h:Hp)(ha:h[a]?=some (some (cnC o j)))(hj:h[j]?=some (some (flP D))):
  qae prog 24 [xd a] h (.string q8e) [(j,flP D)] [a]:=by
 refine qay (G:=tys) (λ_:Unit=>True) (λ_=>_) [⟨a,_,cnC false 1,⟨false,0,[]⟩⟩,⟨j,flP D,flP D,flP D⟩] [] [xd 0] tysOK mixed func24 Q4R (call24) ⟨ha,hj,xb⟩ ⟨Q3O,Q3P,xb⟩ (by simp[Apart,haj]) ⟨.inl rfl,.inr ⟨rfl,rfl⟩,xb⟩ xb ⟨.ptr rfl,xb⟩ Opens.same ?_
 rintro⟨⟩ -
 repeat' (refine Ba ?_;first|refine Q2J ?_|refine Q2R ?_|refine Bq 6 ?_|refine Bc (qd3 D 0 Q5b _ Q4R 1 _ Q4R) ?_|refine Bc (qeb D 0 Q5b _ Q4R 1 _ Q4R) ?_|refine Bc (qc2 D 0 Q5b (ok.E 0 Q4T) 1 9 _ Q4R Q4R) ?_|refine Bc (qmv D 0 Q5b _ Q4R 1 _ Q4R) ?_|refine Bf (ok.on 0 Q4T) ?_|refine Bf ((ok.V 0 Q4T).1) ?_|refine Bc (jbi _ _ _ _ _ _ _ true _ (xg (ok.V 0 Q4T).2)) ?_|refine Bc (qd3 D 1 Q5b _ Q4R 1 _ Q4R) ?_|refine Bc (qeb D 1 Q5b _ Q4R 1 _ Q4R) ?_|refine Bc (qc2 D 1 Q5b (ok.E 1 Q4T) 1 9 _ Q4R Q4R) ?_|refine Bc (qmv D 1 Q5b _ Q4R 1 _ Q4R) ?_|refine Bf (ok.on 1 Q4T) ?_|refine Bf ((ok.V 1 Q4T).1) ?_|refine Bc (jbi _ _ _ _ _ _ _ true _ (xg (ok.V 1 Q4T).2)) ?_|refine Bc (qd3 D 2 Q5b _ Q4R 1 _ Q4R) ?_|refine Bc (qeb D 2 Q5b _ Q4R 1 _ Q4R) ?_|refine Bc (qc2 D 2 Q5b (ok.E 2 Q4T) 1 9 _ Q4R Q4R) ?_|refine Bc (qmv D 2 Q5b _ Q4R 1 _ Q4R) ?_|refine Bf (ok.on 2 Q4T) ?_|refine Bf ((ok.V 2 Q4T).1) ?_|refine Bc (jbi _ _ _ _ _ _ _ true _ (xg (ok.V 2 Q4T).2)) ?_|refine Bc (qd3 D 3 Q5b _ Q4R 1 _ Q4R) ?_|refine Bc (qeb D 3 Q5b _ Q4R 1 _ Q4R) ?_|refine Bc (qc2 D 3 Q5b (ok.E 3 Q4T) 1 9 _ Q4R Q4R) ?_|refine Bc (qmv D 3 Q5b _ Q4R 1 _ Q4R) ?_|refine Bf (ok.on 3 Q4T) ?_|refine Be (ok.N 3 Q4T Q4T) ?_|refine Bc (qd3 D 4 Q5b _ Q4R 1 _ Q4R) ?_|refine Bc (qeb D 4 Q5b _ Q4R 1 _ Q4R) ?_|refine Bc (qc2 D 4 Q5b (ok.E 4 Q4T) 1 9 _ Q4R Q4R) ?_|refine Bc (qmv D 4 Q5b _ Q4R 1 _ Q4R) ?_|refine Bf (ok.on 4 Q4T) ?_|refine Be (ok.N 4 Q4T Q4T) ?_|fail)
 refine Ba ?_
 refine Bj ?_
 refine Bb (.plain rfl) ?_
 refine Bb ⟨Q3R,xb⟩ ?_
 refine Bb xb ?_
 refine Bb ⟨Q4u,xb⟩ ?_
 exact Bd
theorem quh:∀{ms:Mz}{h:Hp},(∀m,m∈ms->h[m.1]?=some (some m.2))->modH h ms=h
 | [],_,_=>rfl
 | (i,c)::ms,h,hm=>by
  have e:h.set i (some c)=h:=by
   refine xO λj=>?_
   by_cases e:i=j
   .subst e;have h1:=hm _ (yp ..);rw[h1,xr (xe.1 h1).1]
   .rw[xt e]
  show modH (h.set i (some c)) ms=h;rw[e];exact quh λm h1=>hm m (ym _ h1)
theorem qcj{P:Program}{g:FuncId}{vs:List Value}{h:Hp}{v:Value}{ms:Mz}{rh rh':List Nat}(hms:∀m,m∈ms->h[m.1]?=some (some m.2))(h1':∀i,i∈rh->i∈rh')(h2':∀m,m∈ms->m.1∈rh')(hc:qae P g vs h v ms rh):qae P g vs h v [] rh':=λh₂ h1 _ X ρ w xs H hx=>by
 have h2:∀m∈ms,h₂[m.1]?=h[m.1]?:=λm hm=>h1 _ (h2' m hm)
 have e:modH h₂ ms=h₂:=quh λm hm=>(h2 m hm).trans (hms m hm)
 have:=hc h₂ (λi hi=>h1 i (h1' i hi)) h2 X ρ w xs H hx;rw[e] at this;exact this
theorem q3h(W:World)(hW:TxOK W)(F:List By)(D:FS)(wa:ByteArray)(h1:wa≠⟨#[115,117,114,101]⟩)(h2:wa≠⟨#[116,105,109,101]⟩)(h3:wa≠⟨#[97,105,114]⟩)(h4:wa≠⟨#[108,111,115,116]⟩)(a j m:Nat)(hne:[a,j,m].Nodup)(o:Bool)(h:Hp)(ha:h[a]?=some (some (cnC o j)))(hj:h[j]?=some (some (flP D)))(hm:h[m]?=some (some (q3v W F))):
  qae prog 15 [xd a,.string wa] h (.tuple #[.string ⟨#[]⟩,.bool false]) [(j,flP D),(m,q3v W F)] [a]:=by
 simp only[xz,xf,xA,or_false,not_or,xE,and_true,xv] at hne
 obtain⟨⟨n01,n02⟩,n12⟩:=hne
 refine qay (G:=tys) (λ_:Unit=>True) (λ_=>_) [⟨a,_,cnC false 1,⟨false,0,[]⟩⟩,⟨j,flP D,flP D,flP D⟩,⟨m,q3v W F,q3v W F,q3v W F⟩] [] [xd 0,.string wa] tysOK mixed func15 Q4R (call15) ⟨ha,hj,hm,xb⟩ ⟨Q3O,Q3P,Q3P,xb⟩ Q5A Q43 xb Q3Y Opens.same ?_
 rintro⟨⟩ -
 repeat' (refine Ba ?_;first|refine Q2J ?_|refine Q3n ?_|refine Be (xj h1) ?_|refine Be (xj h2) ?_|refine Be (xj h3) ?_|refine Be (xj h4) ?_|fail)
 refine Ba ?_
 refine Bj ?_
 refine Bb (.plain rfl) ?_
 refine Bb ⟨Q3R,Q3R,xb⟩ ?_
 refine Bb xb ?_
 refine Bb Q41 ?_
 exact Bd
theorem q6q(W:World)(hW:TxOK W)(F:List By)(D:FS)(wa:ByteArray)(h1:wa≠⟨#[115,117,114,101]⟩)(h2:wa≠⟨#[116,105,109,101]⟩)(h3:wa≠⟨#[97,105,114]⟩)(h4:wa≠⟨#[108,111,115,116]⟩)(a j m:Nat)(o:Bool)(h:Hp)(hne:[a,j,m].Nodup)(ha:h[a]?=some (some (cnC o j)))(hj:h[j]?=some (some (flP D)))(hm:h[m]?=some (some (q3v W F))):
  qae prog 15 [xd a,.string wa] h (.tuple #[.string ⟨#[]⟩,.bool false]) [] [a,j,m]:=
 qcj (ms:=[(j,flP D),(m,q3v W F)]) (rh:=[a]) Q5V Q50 Q50 (q3h W hW F D wa h1 h2 h3 h4 a j m hne o h ha hj hm)
theorem qui(W:World)(hW:TxOK W)(F:List By)(D:FS)(ok:q4z D)(a j m:Nat)(hne:[a,j,m].Nodup)(o:Bool)(h:Hp)(ha:h[a]?=some (some (cnC o j)))(hj:h[j]?=some (some (flP D)))(hm:h[m]?=some (some (q3v W F))):
  qae prog 15 [xd a,.string ⟨#[115,117,114,101]⟩] h (.tuple #[.string q8e,.bool true]) [(j,flP D),(m,q3v W F)] [a]:=by
 simp only[xz,xf,xA,or_false,not_or,xE,and_true,xv] at hne
 obtain⟨⟨n01,n02⟩,n12⟩:=hne
 refine qay (G:=tys) (λ_:Unit=>True) (λ_=>_) [⟨a,_,cnC false 1,⟨false,0,[]⟩⟩,⟨j,flP D,flP D,flP D⟩,⟨m,q3v W F,q3v W F,q3v W F⟩] [] [xd 0,.string ⟨#[115,117,114,101]⟩] tysOK mixed func15 Q4R (call15) ⟨ha,hj,hm,xb⟩ ⟨Q3O,Q3P,Q3P,xb⟩ Q5A Q43 xb Q3Y Opens.same ?_
 rintro⟨⟩ -
 repeat' (refine Ba ?_;first|refine Q2J ?_|refine Q2T ?_|refine Q3n ?_|refine Bc (jcb D ok 0 1 Q4T false _ Q4R Q4R) ?_|fail)
 refine Ba ?_
 refine Bj ?_
 refine Bb (.plain rfl) ?_
 refine Bb ⟨Q3R,Q3R,xb⟩ ?_
 refine Bb xb ?_
 refine Bb Q41 ?_
 exact Bd
theorem qxf(W:World)(hW:TxOK W)(F:List By)(D:FS)(ok:q4z D)(a j m:Nat)(o:Bool)(h:Hp)(hne:[a,j,m].Nodup)(ha:h[a]?=some (some (cnC o j)))(hj:h[j]?=some (some (flP D)))(hm:h[m]?=some (some (q3v W F))):
  qae prog 15 [xd a,.string ⟨#[115,117,114,101]⟩] h (.tuple #[.string q8e,.bool true]) [] [a,j,m]:=
 qcj (ms:=[(j,flP D),(m,q3v W F)]) (rh:=[a]) Q5V Q50 Q50 (qui W hW F D ok a j m hne o h ha hj hm)
theorem qxg(W:World)(hW:TxOK W)(F:List By)(D:FS)(hn:0<D.n)(hl:D.L.length<=100000)(a j m:Nat)(hne:[a,j,m].Nodup)(o:Bool)(h:Hp)(ha:h[a]?=some (some (cnC o j)))(hj:h[j]?=some (some (flP D)))(hm:h[m]?=some (some (q3v W F))):
  qae prog 15 [xd a,.string ⟨#[97,105,114]⟩] h (.tuple #[.string (q30 (D.L.length:Nat)),.bool true]) [(j,flP D),(m,q3v W F)] [a]:=by
 simp only[xz,xf,xA,or_false,not_or,xE,and_true,xv] at hne
 obtain⟨⟨n01,n02⟩,n12⟩:=hne
 refine qay (G:=tys) (λ_:Unit=>True) (λ_=>_) [⟨a,_,cnC false 1,⟨false,0,[]⟩⟩,⟨j,flP D,flP D,flP D⟩,⟨m,q3v W F,q3v W F,q3v W F⟩] [] [xd 0,.string ⟨#[97,105,114]⟩] tysOK mixed func15 Q4R (call15) ⟨ha,hj,hm,xb⟩ ⟨Q3O,Q3P,Q3P,xb⟩ Q5A Q43 xb Q3Y Opens.same ?_
 rintro⟨⟩ -
 repeat' (refine Ba ?_;first|refine Q2J ?_|refine Q2R ?_|refine Q3n ?_|refine Bc (q05 D hn 1 _ Q4R) ?_|refine Bc (qf3 W hW F _ ⟨by omega,by omega⟩ 2 _ Q4R) ?_|fail)
 refine Ba ?_
 refine Bj ?_
 refine Bb (.plain rfl) ?_
 refine Bb ⟨Q3R,Q3R,xb⟩ ?_
 refine Bb xb ?_
 refine Bb Q41 ?_
 exact Bd
theorem q1a(W:World)(hW:TxOK W)(F:List By)(D:FS)(hn:0<D.n)(hl:D.L.length<=100000)(a j m:Nat)(o:Bool)(h:Hp)(hne:[a,j,m].Nodup)(ha:h[a]?=some (some (cnC o j)))(hj:h[j]?=some (some (flP D)))(hm:h[m]?=some (some (q3v W F))):
  qae prog 15 [xd a,.string ⟨#[97,105,114]⟩] h (.tuple #[.string (q30 (D.L.length:Nat)),.bool true]) [] [a,j,m]:=
 qcj (ms:=[(j,flP D),(m,q3v W F)]) (rh:=[a]) Q5V Q50 Q50 (qxg W hW F D hn hl a j m hne o h ha hj hm)
open Go Go.RowKit Sx
theorem q3i(W:World)(hW:TxOK W)(F:List By)(x y a b d:Int)(hx:q35 x)(hy:q35 y)(ha:q35 a)(hb:q35 b)(hd:q35 d)(i:Nat)(h:Hp)(hi:h[i]?=some (some (q3v W F))):qae prog 75 [.agg #[xc x,xc y,xc a,xc b,xc d]] h (.string (q48 x y a b d)) [] [i]:=by
 have lx:=qbr x hx;have ly:=qbr y hy;have la:=qbr a ha;have lb:=qbr b hb;have ld:=qbr d hd;have lc:(ByteArray.mk #[44]).size=1:=rfl;have ls:(ByteArray.mk #[47]).size=1:=rfl;refine qmt i W F hi tysOK mixed func75 Q4R hW.pos rfl rfl (call75) λw hk=>?_
 repeat' (refine Ba ?_;first|refine Q2J ?_|refine Bc (q6p _ (hW.kept hk) x hx 0 _ Q4R) ?_|refine Bc (q6p _ (hW.kept hk) y hy 0 _ Q4R) ?_|refine Bc (q6p _ (hW.kept hk) a ha 0 _ Q4R) ?_|refine Bc (q6p _ (hW.kept hk) b hb 0 _ Q4R) ?_|refine Bc (q6p _ (hW.kept hk) d hd 0 _ Q4R) ?_|refine Bm _ (qif _ _ _ _ (by simp only[ByteArray.size_append,lc,ls];omega)) ?_|exact N.mk ⟨rfl,rfl⟩|fail)
theorem q1b(W:World)(hW:TxOK W)(F:List By)(D:FS)(q:Nat)(hq:q<D.n)(x:Int)(hx:x=(q:Int))(hE:(D.s q).T.E=[])(hv:(D.s q).fv=true)(f1:q35 (D.s q).fx)(f2:q35 (D.s q).fy)(f3:q35 (D.s q).fa)(f4:q35 (D.s q).fb)(f5:q35 (D.s q).fd)(a j m:Nat)(hne:[a,j,m].Nodup)(o:Bool)(h:Hp)(ha:h[a]?=some (some (cnC o j)))(hj:h[j]?=some (some (flP D)))(hm:h[m]?=some (some (q3v W F))):
  qae prog 39 [xd a,xc x] h (.string (q48 (D.s q).fx (D.s q).fy (D.s q).fa (D.s q).fb (D.s q).fd)) [(j,flP D),(m,q3v W F)] [a]:=by
 simp only[xz,xf,xA,or_false,not_or,xE,and_true,xv] at hne
 obtain⟨⟨n01,n02⟩,n12⟩:=hne
 refine qay (G:=tys) (λ_:Unit=>True) (λ_=>_) [⟨a,_,cnC false 1,⟨false,0,[]⟩⟩,⟨j,flP D,flP D,flP D⟩,⟨m,q3v W F,q3v W F,q3v W F⟩] [] [xd 0,xc x] tysOK mixed func39 Q4R (call39) ⟨ha,hj,hm,xb⟩ ⟨Q3O,Q3P,Q3P,xb⟩ Q5A Q43 xb Q3Y Opens.same ?_
 rintro⟨⟩ -
 repeat' (refine Ba ?_;first|refine Q2J ?_|refine Bc (qeb D q hq _ hx 1 _ Q4R) ?_|refine Bc (qc2 D q hq hE 1 6 _ Q4R Q4R) ?_|refine Bf hv ?_|refine Bc (q3i W hW F _ _ _ _ _ f1 f2 f3 f4 f5 2 _ Q4R) ?_|fail)
 refine Ba ?_
 refine Bj ?_
 refine Bb (.plain rfl) ?_
 refine Bb ⟨Q3R,Q3R,xb⟩ ?_
 refine Bb xb ?_
 refine Bb Q41 ?_
 exact Bd
theorem q3j(W:World)(hW:TxOK W)(F:List By)(D:FS)(q:Nat)(hq:q<D.n)(x:Int)(hx:x=(q:Int))(hE:(D.s q).T.E=[])(hv:(D.s q).fv=true)(f1:q35 (D.s q).fx)(f2:q35 (D.s q).fy)(f3:q35 (D.s q).fa)(f4:q35 (D.s q).fb)(f5:q35 (D.s q).fd)(a j m:Nat)(o:Bool)(h:Hp)(hne:[a,j,m].Nodup)(ha:h[a]?=some (some (cnC o j)))(hj:h[j]?=some (some (flP D)))(hm:h[m]?=some (some (q3v W F))):
  qae prog 39 [xd a,xc x] h (.string (q48 (D.s q).fx (D.s q).fy (D.s q).fa (D.s q).fb (D.s q).fd)) [] [a,j,m]:=
 qcj (ms:=[(j,flP D),(m,q3v W F)]) (rh:=[a]) Q5V Q50 Q50 (q1b W hW F D q hq x hx hE hv f1 f2 f3 f4 f5 a j m hne o h ha hj hm)
theorem q1c(W:World)(hW:TxOK W)(F:List By)(D:FS)(q:Nat)(hq:q<D.n)(x:Int)(hx:x=(q:Int))(f1:q35 (D.P (q*2)))(f2:q35 (D.P (q*2+1)))(a j m:Nat)(hne:[a,j,m].Nodup)(o:Bool)(h:Hp)(ha:h[a]?=some (some (cnC o j)))(hj:h[j]?=some (some (flP D)))(hm:h[m]?=some (some (q3v W F))):
  qae prog 40 [xd a,xc x] h (.string (q30 (D.P (q*2))++q4f++q30 (D.P (q*2+1)))) [(j,flP D),(m,q3v W F)] [a]:=by
 simp only[xz,xf,xA,or_false,not_or,xE,and_true,xv] at hne
 obtain⟨⟨n01,n02⟩,n12⟩:=hne
 refine qay (G:=tys) (λ_:Unit=>True) (λ_=>_) [⟨a,_,cnC false 1,⟨false,0,[]⟩⟩,⟨j,flP D,flP D,flP D⟩,⟨m,q3v W F,q3v W F,q3v W F⟩] [] [xd 0,xc x] tysOK mixed func40 Q4R (call40) ⟨ha,hj,hm,xb⟩ ⟨Q3O,Q3P,Q3P,xb⟩ Q5A Q43 xb Q3Y Opens.same ?_
 have lx:=qbr _ f1
 have ly:=qbr _ f2
 have lc:(ByteArray.mk #[44]).size=1:=rfl
 rintro⟨⟩ -
 repeat' (refine Ba ?_;first|refine Q2J ?_|refine Bc (qd3 D q hq _ hx 1 _ Q4R) ?_|refine Bc (q8a W hW F _ f1 2 _ Q4R) ?_|refine Bc (q8a W hW F _ f2 2 _ Q4R) ?_|refine Bm _ (qif _ _ _ _ Q5F) ?_|fail)
 refine Ba ?_
 refine Bj ?_
 refine Bb (.plain rfl) ?_
 refine Bb ⟨Q3R,Q3R,xb⟩ ?_
 refine Bb xb ?_
 refine Bb Q41 ?_
 exact Bd
theorem q3k(W:World)(hW:TxOK W)(F:List By)(D:FS)(q:Nat)(hq:q<D.n)(x:Int)(hx:x=(q:Int))(f1:q35 (D.P (q*2)))(f2:q35 (D.P (q*2+1)))(a j m:Nat)(o:Bool)(h:Hp)(hne:[a,j,m].Nodup)(ha:h[a]?=some (some (cnC o j)))(hj:h[j]?=some (some (flP D)))(hm:h[m]?=some (some (q3v W F))):
  qae prog 40 [xd a,xc x] h (.string (q30 (D.P (q*2))++q4f++q30 (D.P (q*2+1)))) [] [a,j,m]:=
 qcj (ms:=[(j,flP D),(m,q3v W F)]) (rh:=[a]) Q5V Q50 Q50 (q1c W hW F D q hq x hx f1 f2 a j m hne o h ha hj hm)
theorem qxh(x y:Operand)(q:Nat×Nat):BinIs prog .eql 70 x y (q3z q) (.pointer none) (.bool false):=⟨rfl,rfl,rfl,λw=>by unfold q3z;go_simp⟩
theorem jcs(W:World)(hW:TxOK W)(F:List By)(D:FS)(g:FuncId)(s:ByteArray)(q:Nat)(hq:q<D.n)(hq64:q<64)(hg:∀(a j m:Nat)(o:Bool)(h:Hp),[a,j,m].Nodup->h[a]?=some (some (cnC o j))->h[j]?=some (some (flP D))->h[m]?=some (some (q3v W F))->qae prog g [xd a,xc (q:Int)] h (.string s) [] [a,j,m])(S:Nat->ByteArray)(cap k p c:Nat)(hp:p<cap)(hS:S p=q30 (q:Int))(a l m j:Nat)(hne:[a,l,k,m,j].Nodup)(o oo:Bool)(h:Hp)(ha:h[a]?=some (some (cnC o j)))(hl:h[l]?=some (some (wdC true k p (0+1) (c+1) false)))(hk:h[k]?=some (some (rsC oo cap S)))(hm:h[m]?=some (some (q3v W F)))(hj:h[j]?=some (some (flP D))):
  qae prog 38 [xd a,xd l,.func (.func g) ⟨[xd a]⟩ ⟨[]⟩] h (.string s) [(l,wdC true k (nxt p c) 0 c false),(m,q3v W F),(j,flP D)] [a,k]:=by
 simp only[xz,xf,xA,or_false,not_or,xE,and_true,xv] at hne
 obtain⟨⟨n01,n02,n03,n04⟩,⟨n12,n13,n14⟩,⟨n23,n24⟩,n34⟩:=hne
 refine qay (G:=tys) (λ_:Unit=>True) (λ_=>_) [⟨a,_,cnC false 4,⟨false,0,[]⟩⟩,⟨l,_,wdC true 2 p (0+1) (c+1) false,wdC true k (nxt p c) 0 c false⟩,⟨k,_,rsC false cap S,⟨false,0,[]⟩⟩,⟨m,q3v W F,q3v W F,q3v W F⟩,⟨j,flP D,flP D,flP D⟩] [] [xd 0,xd 1,.func (.func g) ⟨[xd 0]⟩ ⟨[]⟩] tysOK mixed func38 Q4R (call38) ⟨ha,hl,hk,hm,hj,xb⟩ Q3N Q56 Q3X xb ⟨.ptr rfl,.ptr rfl,.func ⟨.ptr rfl,xb⟩ xb,xb⟩ Opens.same ?_
 rintro⟨⟩ -
 repeat' (refine Ba ?_;first|refine Q2J ?_|refine Q2W ?_|refine Bc (q9q W hW F S cap 2 p 0 c hp (xo _) (q:Int) ⟨by omega,by omega⟩ hS 1 3 Q4T Q4T Q4T false _ Q4R Q4R Q4R) ?_|refine Bc (q9r S cap 2 _ 0 c false 1 false _ Q4R Q4R) ?_|refine Bc (qeb D q hq _ rfl 4 _ Q4R) ?_|refine Bm _ (qxh _ _ _) ?_|refine Bc (hg 0 4 3 false _ Q4T Q4R Q4R Q4R) ?_|fail)
 refine Ba ?_
 refine Bj ?_
 refine Bb (.plain rfl) ?_
 refine Bb ⟨Q3S,Q3R,Q3R,xb⟩ ?_
 refine Bb xb ?_
 refine Bb Q3V ?_
 exact Bd
structure q9t(W:World)(F:List By)(D:FS)(A:List Am):Prop where
 n:1<=D.n/\D.n<=64
 h4:0<=D.C 4/\D.C 4<=100
 h5:0<=D.C 5/\D.C 5<=1000
 t:0<=D.tm/\D.tm<750000
 l:0<=D.lost/\D.lost<=1000000
 A:AirA W F D.L A
 N:∀m,m<D.n->NdOK (D.s m)
theorem q1d(W:World)(hW:TxOK W)(F:List By)(D:FS)(A:List Am)(ok:q9t W F D A)(S:Nat->ByteArray)(cap k p c:Nat)(a l m j:Nat)(hne:[a,l,k,j,m].Nodup)(o oo:Bool)(h:Hp)(ha:h[a]?=some (some (cnC o j)))(hl:h[l]?=some (some (wdC true k p 0 c false)))(hk:h[k]?=some (some (rsC oo cap S)))(hm:h[m]?=some (some (q3v W F)))(hj:h[j]?=some (some (flP D))):
  CallAll prog 29 [xd a,xd l] h λv ms=>∃L' B',AirA W B' L' (tickZ D A D.n).2.1/\(∀e,e∈F->e∈B')/\v=.string okB/\ms=[(l,wdC true k p 0 c false),(j,flP (q39 D L' (tickZ D A D.n))),(m,q3v W B')]:=by
 simp only[xz,xf,xA,or_false,not_or,xE,and_true,xv] at hne
 obtain⟨⟨n01,n02,n03,n04⟩,⟨n12,n13,n14⟩,⟨n23,n24⟩,n34⟩:=hne
 have key:=qaq (G:=tys) (h:=h) (vs:=[xd a,xd l]) (λ_:Unit=>True) (λ_=>_) (α:=List Ml×List By) (λκ=>AirA W κ.2 κ.1 (tickZ D A D.n).2.1/\∀e,e∈F->e∈κ.2) (λκ=>.string okB) [⟨a,_,cnC false 3,⟨false,0,[]⟩⟩,⟨l,_,wdC true 2 p 0 c false,wdC true k p 0 c false⟩,⟨k,_,rsC false cap S,⟨false,0,[]⟩⟩,⟨j,flP D,flP D,flP D⟩,⟨m,q3v W F,q3v W F,q3v W F⟩] (λκ=>[⟨false,0,[]⟩,wdC true k p 0 c false,⟨false,0,[]⟩,flP (q39 D κ.1 (tickZ D A D.n)),q3v W κ.2]) (λκ=>[]) [xd 0,xd 1] tysOK mixed func29 Q4R (call29) ⟨ha,hl,hk,hj,hm,xb⟩ Q3N (λκ _=>Q3N) Q56 Q3X (λκ _=>trivial) ⟨.ptr rfl,.ptr rfl,xb⟩ Opens.same ?_
 .exact Q0J
 rintro⟨⟩ -
 repeat' (refine Ba ?_;first|refine Q2J ?_|refine Q2R ?_|refine Q3F ?_|refine Bq 2 ?_|fail)
 refine Ba ?_
 refine Bg (qt3 W F D ok.n ok.h4 ok.h5 ok.t ok.l A ok.A ok.N 3 4 Q4T _ Q4R Q4R) λv ms hR=>?_
 obtain⟨L',B',h1,h2,rfl,rfl⟩:=hR
 repeat' (refine Ba ?_;first|refine Q2J ?_|refine Q2R ?_|fail)
 refine Ba ?_
 refine Bj ?_
 refine Bh (L',B') ⟨⟨h1,h2⟩,?_⟩
 refine Bb (.plain rfl) ?_
 refine Bb ⟨Q3S,Q3R,Q3R,xb⟩ ?_
 refine Bb xb ?_
 refine Bb Q3V ?_
 exact Bd
theorem qxi(W:World)(hW:TxOK W)(F:List By)(D:FS)(A:List Am)(ok:q9t W F D A)(S:Nat->ByteArray)(cap k p c:Nat)(a l m j:Nat)(hne:[a,l,k,j,m].Nodup)(o oo:Bool)(h:Hp)(ha:h[a]?=some (some (cnC o j)))(hl:h[l]?=some (some (wdC true k p 0 c false)))(hk:h[k]?=some (some (rsC oo cap S)))(hm:h[m]?=some (some (q3v W F)))(hj:h[j]?=some (some (flP D))):
  CallAll prog 16 [xd a,.string ⟨#[116,105,99,107]⟩,xd l] h λv ms=>∃L' B',AirA W B' L' (tickZ D A D.n).2.1/\(∀e,e∈F->e∈B')/\v=.string okB/\ms=[(l,wdC true k p 0 c false),(j,flP (q39 D L' (tickZ D A D.n))),(m,q3v W B')]:=by
 simp only[xz,xf,xA,or_false,not_or,xE,and_true,xv] at hne
 obtain⟨⟨n01,n02,n03,n04⟩,⟨n12,n13,n14⟩,⟨n23,n24⟩,n34⟩:=hne
 have key:=qaq (G:=tys) (h:=h) (vs:=[xd a,.string ⟨#[116,105,99,107]⟩,xd l]) (λ_:Unit=>True) (λ_=>_) (α:=List Ml×List By) (λκ=>AirA W κ.2 κ.1 (tickZ D A D.n).2.1/\∀e,e∈F->e∈κ.2) (λκ=>.string okB) [⟨a,_,cnC false 3,⟨false,0,[]⟩⟩,⟨l,_,wdC true 2 p 0 c false,wdC true k p 0 c false⟩,⟨k,_,rsC false cap S,⟨false,0,[]⟩⟩,⟨j,flP D,flP D,flP D⟩,⟨m,q3v W F,q3v W F,q3v W F⟩] (λκ=>[⟨false,0,[]⟩,wdC true k p 0 c false,⟨false,0,[]⟩,flP (q39 D κ.1 (tickZ D A D.n)),q3v W κ.2]) (λκ=>[]) [xd 0,.string ⟨#[116,105,99,107]⟩,xd 1] tysOK mixed func16 Q4R (call16) ⟨ha,hl,hk,hj,hm,xb⟩ Q3N (λκ _=>Q3N) Q56 Q3X (λκ _=>trivial) Q4j Opens.same ?_
 .exact Q0J
 rintro⟨⟩ -
 repeat' (refine Ba ?_;first|refine Q2J ?_|refine Q2T ?_|refine Q3n ?_|fail)
 refine Ba ?_
 refine Bg (q1d W hW F D A ok S cap 2 p c 0 1 4 3 Q4T false false _ Q4R Q4R Q4R Q4R Q4R) λv ms hR=>?_
 obtain⟨L',B',h1,h2,rfl,rfl⟩:=hR
 repeat' (refine Ba ?_;first|refine Q2J ?_|refine Q2R ?_|fail)
 refine Ba ?_
 refine Bj ?_
 refine Bh (L',B') ⟨⟨h1,h2⟩,?_⟩
 refine Bb (.plain rfl) ?_
 refine Bb ⟨Q3S,Q3R,Q3R,xb⟩ ?_
 refine Bb xb ?_
 refine Bb Q3V ?_
 exact Bd
theorem quj(W:World)(hW:TxOK W)(F:List By)(D:FS)(q:Nat)(hq:q<D.n)(hq64:q<64)(hE:(D.s q).T.E=[])(hv:(D.s q).fv=true)(f1:q35 (D.s q).fx)(f2:q35 (D.s q).fy)(f3:q35 (D.s q).fa)(f4:q35 (D.s q).fb)(f5:q35 (D.s q).fd)(S:Nat->ByteArray)(cap k p c:Nat)(hp:p<cap)(hS:S p=q30 (q:Int))(a l m j:Nat)(hne:[a,l,k,j,m].Nodup)(o oo:Bool)(h:Hp)(ha:h[a]?=some (some (cnC o j)))(hl:h[l]?=some (some (wdC true k p 1 (c+1) false)))(hk:h[k]?=some (some (rsC oo cap S)))(hm:h[m]?=some (some (q3v W F)))(hj:h[j]?=some (some (flP D))):
  CallAll prog 16 [xd a,.string ⟨#[119,104,101,114,101]⟩,xd l] h λv ms=>v=.string (q48 (D.s q).fx (D.s q).fy (D.s q).fa (D.s q).fb (D.s q).fd)/\ms=[(l,wdC true k (nxt p c) 0 c false),(j,flP D),(m,q3v W F)]:=by
 simp only[xz,xf,xA,or_false,not_or,xE,and_true,xv] at hne
 obtain⟨⟨n01,n02,n03,n04⟩,⟨n12,n13,n14⟩,⟨n23,n24⟩,n34⟩:=hne
 have key:=qaq (G:=tys) (h:=h) (vs:=[xd a,.string ⟨#[119,104,101,114,101]⟩,xd l]) (λ_:Unit=>True) (λ_=>_) (α:=Unit) (λκ=>True) (λκ=>.string (q48 (D.s q).fx (D.s q).fy (D.s q).fa (D.s q).fb (D.s q).fd)) [⟨a,_,cnC false 3,⟨false,0,[]⟩⟩,⟨l,_,wdC true 2 p 1 (c+1) false,wdC true k (nxt p c) 0 c false⟩,⟨k,_,rsC false cap S,⟨false,0,[]⟩⟩,⟨j,flP D,flP D,flP D⟩,⟨m,q3v W F,q3v W F,q3v W F⟩] (λκ=>[⟨false,0,[]⟩,wdC true k (nxt p c) 0 c false,⟨false,0,[]⟩,flP D,q3v W F]) (λκ=>[]) [xd 0,.string ⟨#[119,104,101,114,101]⟩,xd 1] tysOK mixed func16 Q4R (call16) ⟨ha,hl,hk,hj,hm,xb⟩ Q3N (λκ _=>Q3N) Q56 Q3X (λκ _=>trivial) Q4j Opens.same ?_
 .exact Q0B
 rintro⟨⟩ -
 repeat' (refine Ba ?_;first|refine Q2J ?_|refine Q2R ?_|refine Q3n ?_|refine Bc (jcs W hW F D 39 _ q hq hq64 (λa j m o h hne ha hj hm=>q3j W hW F D q hq _ rfl hE hv f1 f2 f3 f4 f5 a j m o h hne ha hj hm) S cap 2 p c hp hS 0 1 4 3 Q4T false false _ Q4R Q4R Q4R Q4R Q4R) ?_|fail)
 refine Ba ?_
 refine Bj ?_
 refine Bh () ⟨xb,?_⟩
 refine Bb (.plain rfl) ?_
 refine Bb ⟨Q3S,Q3R,Q3R,xb⟩ ?_
 refine Bb xb ?_
 refine Bb Q3V ?_
 exact Bd
theorem quk(W:World)(hW:TxOK W)(F:List By)(D:FS)(q:Nat)(hq:q<D.n)(hq64:q<64)(f1:q35 (D.P (q*2)))(f2:q35 (D.P (q*2+1)))(S:Nat->ByteArray)(cap k p c:Nat)(hp:p<cap)(hS:S p=q30 (q:Int))(a l m j:Nat)(hne:[a,l,k,j,m].Nodup)(o oo:Bool)(h:Hp)(ha:h[a]?=some (some (cnC o j)))(hl:h[l]?=some (some (wdC true k p 1 (c+1) false)))(hk:h[k]?=some (some (rsC oo cap S)))(hm:h[m]?=some (some (q3v W F)))(hj:h[j]?=some (some (flP D))):
  CallAll prog 16 [xd a,.string ⟨#[116,114,117,116,104]⟩,xd l] h λv ms=>v=.string (q30 (D.P (q*2))++q4f++q30 (D.P (q*2+1)))/\ms=[(l,wdC true k (nxt p c) 0 c false),(j,flP D),(m,q3v W F)]:=by
 simp only[xz,xf,xA,or_false,not_or,xE,and_true,xv] at hne
 obtain⟨⟨n01,n02,n03,n04⟩,⟨n12,n13,n14⟩,⟨n23,n24⟩,n34⟩:=hne
 have key:=qaq (G:=tys) (h:=h) (vs:=[xd a,.string ⟨#[116,114,117,116,104]⟩,xd l]) (λ_:Unit=>True) (λ_=>_) (α:=Unit) (λκ=>True) (λκ=>.string (q30 (D.P (q*2))++q4f++q30 (D.P (q*2+1)))) [⟨a,_,cnC false 3,⟨false,0,[]⟩⟩,⟨l,_,wdC true 2 p 1 (c+1) false,wdC true k (nxt p c) 0 c false⟩,⟨k,_,rsC false cap S,⟨false,0,[]⟩⟩,⟨j,flP D,flP D,flP D⟩,⟨m,q3v W F,q3v W F,q3v W F⟩] (λκ=>[⟨false,0,[]⟩,wdC true k (nxt p c) 0 c false,⟨false,0,[]⟩,flP D,q3v W F]) (λκ=>[]) [xd 0,.string ⟨#[116,114,117,116,104]⟩,xd 1] tysOK mixed func16 Q4R (call16) ⟨ha,hl,hk,hj,hm,xb⟩ Q3N (λκ _=>Q3N) Q56 Q3X (λκ _=>trivial) Q4j Opens.same ?_
 .exact Q0B
 rintro⟨⟩ -
 repeat' (refine Ba ?_;first|refine Q2J ?_|refine Q2R ?_|refine Q3n ?_|refine Bc (jcs W hW F D 40 _ q hq hq64 (λa j m o h hne ha hj hm=>q3k W hW F D q hq _ rfl f1 f2 a j m o h hne ha hj hm) S cap 2 p c hp hS 0 1 4 3 Q4T false false _ Q4R Q4R Q4R Q4R Q4R) ?_|fail)
 refine Ba ?_
 refine Bj ?_
 refine Bh () ⟨xb,?_⟩
 refine Bb (.plain rfl) ?_
 refine Bb ⟨Q3S,Q3R,Q3R,xb⟩ ?_
 refine Bb xb ?_
 refine Bb Q3V ?_
 exact Bd
open Go Go.RowKit Sx
theorem nd5{a j m k l:Nat}(hne:[a,j,m,k,l].Nodup):[a,l,k,j,m].Nodup:=by
 simp only[xz,xf,xA,or_false,not_or,xE,and_true,xv] at hne ⊢;omega
theorem qul(W:World)(hW:TxOK W)(F:List By)(D:FS)(A:List Am)(ok:q9t W F D A)(a j m:Nat)(hne:[a,j,m].Nodup)(h:Hp)(ha:h[a]?=some (some (cnC true j)))(hj:h[j]?=some (some (flP D)))(hm:h[m]?=some (some (q3v W F))):
  CallAll prog 7 [xd a,.string ⟨#[116,105,99,107]⟩] h λv ms=>∃L' B',AirA W B' L' (tickZ D A D.n).2.1/\(∀e,e∈F->e∈B')/\v=.string okB/\ms=[(j,flP (q39 D L' (tickZ D A D.n))),(m,q3v W B')]:=by
 refine qal (qmu W hW F D ⟨#[116,105,99,107]⟩ [⟨#[116,105,99,107]⟩] Q4T Q4T Q4R Q4R ⟨#[116,105,99,107]⟩ [] Q4R ⟨#[]⟩ false Q50 (λa j m o h hne ha hj hm=>q6q W hW F D _ Q4T Q4T Q4T Q4T a j m o h hne ha hj hm) (λV D' F'=>∃L',AirA W F' L' (tickZ D A D.n).2.1/\(∀e,e∈F->e∈F')/\V=okB/\D'=q39 D L' (tickZ D A D.n)) (λa j m k l cap o h hne hc ha hj hm hk hl=>qal (qxi W hW F D A ok _ cap k _ _ a l m j (nd5 hne) o true h ha hl hk hm hj) λv ms hR=>?_) a j m hne h ha hj hm) λv ms hR=>?_
 .obtain⟨L',B',h1,h2,rfl,rfl⟩:=hR;exact⟨okB,_,B',_,⟨L',h1,h2,rfl,rfl⟩,rfl,rfl⟩
 .obtain⟨V,D',F',⟨L',h1,h2,rfl,rfl⟩,rfl,rfl⟩:=hR;exact⟨L',F',h1,h2,rfl,rfl⟩
theorem qum(W:World)(hW:TxOK W)(F:List By)(D:FS)(hn:0<D.n)(hE:(D.s 0).T.E=[])(hv:(D.s 0).fv=true)(f1:q35 (D.s 0).fx)(f2:q35 (D.s 0).fy)(f3:q35 (D.s 0).fa)(f4:q35 (D.s 0).fb)(f5:q35 (D.s 0).fd)(a j m:Nat)(hne:[a,j,m].Nodup)(h:Hp)(ha:h[a]?=some (some (cnC true j)))(hj:h[j]?=some (some (flP D)))(hm:h[m]?=some (some (q3v W F))):
  CallAll prog 7 [xd a,.string ⟨#[119,104,101,114,101,32,48]⟩] h λv ms=>v=.string (q48 (D.s 0).fx (D.s 0).fy (D.s 0).fa (D.s 0).fb (D.s 0).fd)/\ms=[(j,flP D),(m,q3v W F)]:=by
 refine qal (qmu W hW F D ⟨#[119,104,101,114,101,32,48]⟩ [⟨#[119,104,101,114,101]⟩,⟨#[48]⟩] Q4T Q4T Q4R Q4R ⟨#[119,104,101,114,101]⟩ [⟨#[48]⟩] Q4R ⟨#[]⟩ false Q50 (λa j m o h hne ha hj hm=>q6q W hW F D _ Q4T Q4T Q4T Q4T a j m o h hne ha hj hm) (λV D' F'=>V=(q48 (D.s 0).fx (D.s 0).fy (D.s 0).fa (D.s 0).fb (D.s 0).fd)/\D'=D/\F'=F) (λa j m k l cap o h hne hc ha hj hm hk hl=>?_) a j m hne h ha hj hm) λv ms hR=>?_
 .obtain⟨c,rfl⟩:∃c,cap=c+2:=⟨cap-2,by have hc:1+1<=cap:=hc;omega⟩;refine qal (quj W hW F D 0 hn Q4T hE hv f1 f2 f3 f4 f5 _ (c+2) k 1 c Q4P (by show qa8 [_,_] 1=q30 _;decide +kernel) a l m j (nd5 hne) o true h ha hl hk hm hj) λv ms hR=>?_
  exact Q1p
 .exact Q1q
theorem qf4(W:World)(hW:TxOK W)(F:List By)(D:FS)(hn:4<D.n)(f1:q35 (D.P (4*2)))(f2:q35 (D.P (4*2+1)))(a j m:Nat)(hne:[a,j,m].Nodup)(h:Hp)(ha:h[a]?=some (some (cnC true j)))(hj:h[j]?=some (some (flP D)))(hm:h[m]?=some (some (q3v W F))):
  CallAll prog 7 [xd a,.string ⟨#[116,114,117,116,104,32,52]⟩] h λv ms=>v=.string (q30 (D.P (4*2))++q4f++q30 (D.P (4*2+1)))/\ms=[(j,flP D),(m,q3v W F)]:=by
 refine qal (qmu W hW F D ⟨#[116,114,117,116,104,32,52]⟩ [⟨#[116,114,117,116,104]⟩,⟨#[52]⟩] Q4T Q4T Q4R Q4R ⟨#[116,114,117,116,104]⟩ [⟨#[52]⟩] Q4R ⟨#[]⟩ false Q50 (λa j m o h hne ha hj hm=>q6q W hW F D _ Q4T Q4T Q4T Q4T a j m o h hne ha hj hm) (λV D' F'=>V=(q30 (D.P (4*2))++q4f++q30 (D.P (4*2+1)))/\D'=D/\F'=F) (λa j m k l cap o h hne hc ha hj hm hk hl=>?_) a j m hne h ha hj hm) λv ms hR=>?_
 .obtain⟨c,rfl⟩:∃c,cap=c+2:=⟨cap-2,by have hc:1+1<=cap:=hc;omega⟩;refine qal (quk W hW F D 4 hn Q4T f1 f2 _ (c+2) k 1 c Q4P (by show qa8 [_,_] 1=q30 _;decide +kernel) a l m j (nd5 hne) o true h ha hl hk hm hj) λv ms hR=>?_
  exact Q1p
 .exact Q1q
theorem qko(W:World)(hW:TxOK W)(F:List By)(D:FS)(ok:q4z D)(a j m:Nat)(hne:[a,j,m].Nodup)(h:Hp)(ha:h[a]?=some (some (cnC true j)))(hj:h[j]?=some (some (flP D)))(hm:h[m]?=some (some (q3v W F))):
  CallAll prog 7 [xd a,.string ⟨#[115,117,114,101]⟩] h λv ms=>v=.string q8e/\ms=[(j,flP D),(m,q3v W F)]:=
 qyy W hW F D ⟨#[115,117,114,101]⟩ [⟨#[115,117,114,101]⟩] Q4T Q4T Q4R Q4R ⟨#[115,117,114,101]⟩ Q4R _ (λa j m o h hne ha hj hm=>qxf W hW F D ok a j m o h hne ha hj hm) a j m hne h ha hj hm
theorem q3l(W:World)(hW:TxOK W)(F:List By)(D:FS)(hn:0<D.n)(hl:D.L.length<=100000)(a j m:Nat)(hne:[a,j,m].Nodup)(h:Hp)(ha:h[a]?=some (some (cnC true j)))(hj:h[j]?=some (some (flP D)))(hm:h[m]?=some (some (q3v W F))):
  CallAll prog 7 [xd a,.string ⟨#[97,105,114]⟩] h λv ms=>v=.string (q30 (D.L.length:Nat))/\ms=[(j,flP D),(m,q3v W F)]:=
 qyy W hW F D ⟨#[97,105,114]⟩ [⟨#[97,105,114]⟩] Q4T Q4T Q4R Q4R ⟨#[97,105,114]⟩ Q4R _ (λa j m o h hne ha hj hm=>q1a W hW F D hn hl a j m o h hne ha hj hm) a j m hne h ha hj hm
def q3m(s:Sl)(p q:Nat):Sl:=⟨s.b,s.o+(if s.c=p then 0 else p),q-p,s.c-p,none⟩
structure OldB(W:World)(s:Sl)(bs:List Int):Prop where
 sp:s.sp=none
 n:bs.length=s.n
 c:s.n<=s.c
 u8:∀j,j<bs.length->0<=bs.getD j 0/\bs.getD j 0<256
 cell:∀j,j<bs.length->W.cell? ⟨s.b,s.o+j,none⟩=some (.int .u8 (bs.getD j 0))
theorem OldB.part{W:World}{s:Sl}{bs:List Int}(h:OldB W s bs){p q:Nat}(hpq:p<=q)(hq:q<=bs.length):OldB W (q3m s p q) ((bs.take q).drop p):=by
 have hl:((bs.take q).drop p).length=q-p:=by rw[List.length_drop,List.length_take,Nat.min_eq_left hq]
 have hg:∀j,j<q-p->((bs.take q).drop p).getD j 0=bs.getD (p+j) 0:=λj hj=>by
  grind
 have hn:=h.n;have hc:=h.c;refine⟨rfl,hl,by show q-p<=s.c-p;omega,λj hj=>?_,λj hj=>?_⟩
 .rw[hl] at hj;rw[hg j hj];exact h.u8 _ Q4P
 .rw[hl] at hj;rw[hg j hj];have hne:s.c≠p:=by omega
  show W.cell? ⟨s.b,s.o+(if s.c=p then 0 else p)+j,none⟩=_;rw[if_neg hne,show s.o+p+j=s.o+(p+j) by omega];exact h.cell _ Q4P
open Go Go.RowKit Sx
def blk(n:Nat):ByteArray:=⟨(List.replicate n 32).toArray⟩
theorem jcc(W:World)(F:List By)(g:Rz):q9t W F (ftF g) [] where
 n:=show 1<=5/\5<=64 by decide
 h4:=show 0<=cfF 4/\cfF 4<=100 by decide
 h5:=show 0<=cfF 5/\cfF 5<=1000 by decide
 t:=show(0:Int)<=0/\(0:Int)<750000 by decide
 l:=show(0:Int)<=0/\(0:Int)<=1000000 by decide
 A:=.nil
 N:=λm hm=>by
  have hm:m<5:=hm;have hk:=qt5 cfF qud Q4T 0 m 0 Q4T;have:NdK cfF 0 m true (q33 cfF m):=Q1z;exact this.tick Q4T Q4P
theorem q3n{g:Rz}:∀j,j<5->¬ nowA (ftF g) j<((ftF g).s j).tx:=λj hj=>by
 have:((ftF g).s j).tx=0:=by
  show(q33 cfF j).tx=0;unfold q33;split<;>rfl
 rw[this];show ¬ q6t _ _<0;unfold q6t;omega
theorem q3o(g:Rz):(tickZ (ftF g) [] 5).2.1.length=20:=
 qi8 _ _ 5 _ _ _ _ _ (λ_ _=>rfl) (λj hj=>q3n (g:=g) j hj) Q4T 5 Q4T
theorem qe9(s:NSt)(now:Int):(tickS s now).T=s.T/\(tickS s now).fv=s.fv/\(tickS s now).fx=s.fx/\(tickS s now).fy=s.fy/\(tickS s now).fa=s.fa/\(tickS s now).fb=s.fb/\(tickS s now).fd=s.fd:=by
 unfold tickS;split<;>exact⟨rfl,rfl,rfl,rfl,rfl,rfl,rfl⟩
theorem qmw{D:FS}{A:List Am}(L:List Ml)(ok:q4z D):q4z (q39 D L (tickZ D A D.n)):=by
 have key:∀m,m<5->(tickZ D A D.n).1 m=tickS (D.s m) (nowA D m):=λm hm=>by
  have hm2:m<D.n:=by rw[ok.n];exact hm
  rw[qic,qkn _ _ _ _ _ hm2,if_pos (ok.on m hm)]
 refine⟨ok.n,ok.on,λm hm=>?_,λm hm=>?_,λm h1 h2=>?_⟩
 .show((tickZ D A D.n).1 m).T.E=[];rw[key m hm,(qe9 _ _).1];exact ok.E m hm
 .have h5:m<5:=by omega
  obtain⟨e1,e2,e3,e4,e5,e6,e7⟩:=qe9 (D.s m) (nowA D m);show((tickZ D A D.n).1 m).fv=true/\inP ((tickZ D A D.n).1 m).fx ((tickZ D A D.n).1 m).fy ((tickZ D A D.n).1 m).fa ((tickZ D A D.n).1 m).fb ((tickZ D A D.n).1 m).fd (D.P (m*2)) (D.P (m*2+1));rw[key m h5,e2,e3,e4,e5,e6,e7];exact ok.V m hm
 .show((tickZ D A D.n).1 m).fv=false;rw[key m h2,(qe9 _ _).2.1];exact ok.N m h1 h2
theorem qkp(g:Rz):q4z (ftF g) where
 n:=rfl
 on:=λ_ _=>rfl
 E:=λm _=>by
  show(q33 cfF m).T.E=[];unfold q33;split<;>rfl
 V:=λm hm=>by
  show(q33 cfF m).fv=true/\inP (q33 cfF m).fx (q33 cfF m).fy (q33 cfF m).fa (q33 cfF m).fb (q33 cfF m).fd (q4s (m*2)) (q4s (m*2+1))
  match m,hm with
  | 0,_=>exact⟨rfl,by show inP 0 0 100 0 100 0 0;decide +kernel⟩
  | 1,_=>exact⟨rfl,by show inP 1000 0 100 0 100 1000 0;decide +kernel⟩
  | 2,_=>exact⟨rfl,by show inP 2000 0 100 0 100 2000 0;decide +kernel⟩
 N:=λm h1 _=>by
  show(q33 cfF m).fv=false;unfold q33;rw[if_neg Q4P]
theorem qkq(W:World)(hW:TxOK W)(F:List By)(m:Nat)(h:Hp)(hm:h[m]?=some (some (q3v W F))):
  CallAll prog 8 [] h λv ms=>∃F',(∀e,e∈F->e∈F')/\v=.bool true/\ms=[(m,q3v W F')]:=by
 have key:=qaq (G:=tys) (h:=h) (vs:=[]) (λ_:Unit=>True) (λ_=>_) (α:=List By) (λκ=>∀e,e∈F->e∈κ) (λκ=>.bool true) [⟨m,q3v W F,q3v W F,q3v W F⟩] (λκ=>[q3v W κ]) (λκ=>[]) [] tysOK mixed func8 Q4R (call8) ⟨hm,xb⟩ ⟨Q3P,xb⟩ Q4r Q55 Q40 (λκ _=>trivial) xb Opens.same ?_
 .exact Q1y
 rintro⟨⟩ -
 repeat' (refine Ba ?_;first|refine Q2J ?_|refine Q2R ?_|fail)
 refine Ba ?_
 refine Bg Q4J λv ms hR=>?_
 obtain⟨g,rfl,rfl⟩:=hR
 repeat' (refine Ba ?_;first|refine Q2J ?_|refine Q2T ?_|refine Q33 ?_|fail)
 have e0:q48 ((ftF g).s 0).fx ((ftF g).s 0).fy ((ftF g).s 0).fa ((ftF g).s 0).fb ((ftF g).s 0).fd=⟨#[48,44,48,47,49,48,48,44,48,44,49,48,48]⟩:=by show q48 0 0 100 0 100=_;decide +kernel
 have e1:q30 ((ftF g).P (4*2))++q4f++q30 ((ftF g).P (4*2+1))=⟨#[52,48,48,48,44,48]⟩:=by show q30 4000++q4f++q30 0=_;decide +kernel
 have e2:okB=⟨#[111,107]⟩:=rfl
 have e4:q8e=⟨#[121,101,115]⟩:=rfl
 refine Ba ?_
 refine Bg (qum W hW F (ftF g) (show 0<5 by decide) ((qkp g).E 0 Q4T) rfl Q5m Q5m Q61 Q5m Q61 1 2 0 Q4T _ Q4R Q4R Q4R) λv ms hR=>?_
 obtain⟨rfl,rfl⟩:=hR
 repeat' (refine Ba ?_;first|refine Q2J ?_|refine Q2T ?_|refine Q33 ?_|fail)
 refine Ba ?_
 refine Bg (qf4 W hW F (ftF g) (show 4<5 by decide) (by show q35 (4000);exact⟨by decide,by decide⟩) Q5m 1 2 0 Q4T _ Q4R Q4R Q4R) λv ms hR=>?_
 obtain⟨rfl,rfl⟩:=hR
 repeat' (refine Ba ?_;first|refine Q2J ?_|refine Q2T ?_|refine Q33 ?_|fail)
 refine Ba ?_
 refine Bg (qul W hW F (ftF g) [] (jcc W F g) 1 2 0 Q4T _ Q4R Q4R Q4R) λv ms hR=>?_
 obtain⟨L',B',hA,hB,rfl,rfl⟩:=hR
 have hL:L'.length=20:=hA.len.trans (q3o g)
 have e3:q30 ((q39 (ftF g) L' (tickZ (ftF g) [] (ftF g).n)).L.length:Nat)=⟨#[50,48]⟩:=by show q30 ((L'.length:Nat):Int)=_;rw[hL];decide +kernel
 repeat' (refine Ba ?_;first|refine Q2J ?_|refine Q2T ?_|refine Q33 ?_|fail)
 refine Ba ?_
 refine Bg (q3l W hW B' (q39 (ftF g) L' (tickZ (ftF g) [] (ftF g).n)) (show 0<5 by decide) (by show L'.length<=100000;omega) 1 2 0 Q4T _ Q4R Q4R Q4R) λv ms hR=>?_
 obtain⟨rfl,rfl⟩:=hR
 repeat' (refine Ba ?_;first|refine Q2J ?_|refine Q2T ?_|refine Q33 ?_|fail)
 refine Ba ?_
 refine Bg (qko W hW B' (q39 (ftF g) L' (tickZ (ftF g) [] (ftF g).n)) (qmw L' (qkp g)) 1 2 0 Q4T _ Q4R Q4R Q4R) λv ms hR=>?_
 obtain⟨rfl,rfl⟩:=hR
 repeat' (refine Ba ?_;first|refine Q2J ?_|refine Q2T ?_|refine Q33 ?_|fail)
 refine Ba ?_
 refine Bj ?_
 refine Bh B' ⟨hB,?_⟩
 refine Bb (.plain rfl) ?_
 refine Bb ⟨Q3R,xb⟩ ?_
 refine Bb xb ?_
 refine Bb Q42 ?_
 exact Bd
open Go Go.RowKit Sx
theorem qkr(W:World)(hW:TxOK W)(F:List By)(S:Nat->ByteArray)(cap k p n c:Nat)(hp:p+1<cap)(hn:n<=c)(x y:Int)(hx:q35 x)(hy:q35 y)(hS:S p=q30 x)(hT:S (p+1)=q30 y)(i m:Nat)(hik:i≠k)(him:i≠m)(hkm:k≠m)(o:Bool)(h:Hp)(hi:h[i]?=some (some (wdC true k p (n+2) (c+2) false)))(hk:h[k]?=some (some (rsC o cap S)))(hm:h[m]?=some (some (q3v W F))):
  qae prog 32 [xd i] h (.agg #[xc x,xc y]) [(i,wdC true k (nxt (p+1) c) n c false),(m,q3v W F)] [k]:=by
 .refine qay (G:=tys) (λ_:Unit=>True) (λ_=>_) [⟨i,_,wdC true 1 p (n+2) (c+2) false,wdC true k (nxt (p+1) c) n c false⟩,⟨k,_,rsC false cap S,⟨false,0,[]⟩⟩,⟨m,q3v W F,q3v W F,q3v W F⟩] [] [xd 0] tysOK mixed func32 Q4R (call32) ⟨hi,hk,hm,xb⟩ ⟨Q3Q,Q3T,Q3P,xb⟩ Q5Y Q4C xb ⟨.ptr rfl,xb⟩ Opens.same ?_;rintro⟨⟩ -;repeat' (refine Ba ?_;first|refine Q2J ?_|refine Bc (q8d W hW F S cap 1 p (n+1) (c+1) Q4P Q4P x hx hS 0 2 Q4T Q4T Q4T false _ Q4R Q4R Q4R) ?_|refine Bc (q8d W hW F S cap 1 (p+1) n c hp hn y hy hT 0 2 Q4T Q4T Q4T false _ Q4R Q4R Q4R) ?_|fail)
  exact Q0r
abbrev mvF(D:FS)(a b:Int):FS:={D with P:=q4t D.P 4 (D.P (4*2)+a) (D.P (4*2+1)+b),M:=q7d D.M 4}
structure q6u(D:FS):Prop where
 n:4<D.n
 on:D.on 4=true
 c2:D.C 2=10
 c3:D.C 3=2
 P:wiB (D.P (4*2)) (D.P (4*2+1)) 4000000
 v:(D.s 4).fv=false
theorem qp0{a b:Int}(ha : -7<=a/\a<=7)(hb : -7<=b/\b<=7):stp a b=true/\qe2 (cx a b) (cy a b) 10=true/\qe2 (cx a b-cx a b) (cy a b-cy a b) 2=true:=by
 have h1:stp a b=true:=q9c Q4P;obtain⟨e1,e2⟩:=qcy h1;have qa:a*a<=7*7:=by
  have:=x7 (show 0<=a+7 by omega) (show 0<=7-a by omega);rw[Int.add_mul,yM,yM] at this;omega
 have qb:b*b<=7*7:=by
  have:=x7 (show 0<=b+7 by omega) (show 0<=7-b by omega);rw[Int.add_mul,yM,yM] at this;omega
 refine⟨h1,?_,?_⟩
 .rw[e1,e2];exact xg ⟨h1,by omega⟩
 .rw[Int.sub_self,Int.sub_self];decide
theorem q3p(D:FS)(ok:q6u D)(a b:Int)(ha : -7<=a/\a<=7)(hb : -7<=b/\b<=7)(hM:D.M 4=false)(i:Nat)(h:Hp)(hi:h[i]?=some (some (flP D))):
  qae prog 71 [xd i,q4j 1 4 0 a b a b 0 0 0 0 0 0 0 (.slice none 0 0)] h (xc 0) [(i,flP (mvF D a b))] []:=by
 obtain⟨s1,s2,s3⟩:=qp0 ha hb
 have hs:upd D.s 4 {D.s 4 with fv:=false,fx:=(D.s 4).fx,fy:=(D.s 4).fy,fa:=(D.s 4).fa,fb:=(D.s 4).fb,fd:=(D.s 4).fd}=D.s:=by
  have e:({D.s 4 with fv:=false,fx:=(D.s 4).fx,fy:=(D.s 4).fy,fa:=(D.s 4).fa,fb:=(D.s 4).fb,fd:=(D.s 4).fd}:NSt)=D.s 4:=by
   have:=ok.v;cases hh:D.s 4
   rw[hh] at this;simp only at this;subst this;rfl
  rw[e,qct]
 have w1:=ok.P
 unfold wiB at w1
 have key:=λh₂ hi₂=>qqr D (by have:=ok.n;omega) (⟨1,4,0,a,b,a,b,0,0,0,0,0,0,0,none⟩:Sp) rfl 4 ok.n rfl ok.on
  (λcap tm st o1 h h1 h2 h3=>q2z D.C D.n cap 1 2 3 D.P D.M tm st o1 4 a b a b Q4T Q4T Q4T h h1 h2 h3 ok.n (by rw[ok.c2];decide) (by rw[ok.c3];decide) s1 s1 (by rw[ok.c2];exact s2) (by rw[ok.c3];exact s3) hM (by unfold wiB;omega) (by unfold wiB;omega))
  _ (λi h hi=>qw7 (D.s 4) a b false _ _ _ _ _ 10 (λi h hi=>by
    have e:=ok.v;rw[e] at hi;exact qw6 _ _ _ _ _ _ a b _ i h hi) i h hi) i h₂ hi₂
 rw[hs] at key
 exact qde λh₂ _ h2=>qid 1 4 0 a b a b 0 0 0 0 0 0 0 (key h₂ ((h2 _ (yp ..)).trans hi))
theorem q3q(D:FS)(ok:q6u D)(a b:Int)(ha : -7<=a/\a<=7)(hb : -7<=b/\b<=7)(hM:D.M 4=true)(i:Nat)(h:Hp)(hi:h[i]?=some (some (flP D))):
  qae prog 71 [xd i,q4j 1 4 0 a b a b 0 0 0 0 0 0 0 (.slice none 0 0)] h (xc 10) [(i,flP D)] []:=by
 obtain⟨s1,s2,s3⟩:=qp0 ha hb
 have key:=λh₂ hi₂=>qqq D (by have:=ok.n;omega) (⟨1,4,0,a,b,a,b,0,0,0,0,0,0,0,none⟩:Sp) rfl 4 ok.n rfl 10 Q4T
  (λcap tm st o1 h h1 h2 h3=>q2y D.C D.n cap 1 2 3 D.P D.M tm st o1 true true 4 a b a b h h1 h2 h3 ok.n (by rw[ok.c2];decide) (by rw[ok.c3];decide) s1 s1 (by rw[ok.c2];exact s2) (by rw[ok.c3];exact s3) hM) i h₂ hi₂
 exact qde λh₂ _ h2=>qid 1 4 0 a b a b 0 0 0 0 0 0 0 (key h₂ ((h2 _ (yp ..)).trans hi))
theorem q1e(W:World)(hW:TxOK W)(F:List By)(D:FS)(ok:q6u D)(x y:Int)(hx : -7<=x/\x<=7)(hy : -7<=y/\y<=7)(hM:D.M 4=false)(S:Nat->ByteArray)(cap k p c:Nat)(a l m j:Nat)(hne:[a,l,k,j,m].Nodup)(o oo:Bool)(h:Hp)(ha:h[a]?=some (some (cnC o j)))(hl:h[l]?=some (some (wdC true k p 0 c false)))(hk:h[k]?=some (some (rsC oo cap S)))(hm:h[m]?=some (some (q3v W F)))(hj:h[j]?=some (some (flP D))):
  CallAll prog 30 [xd a,xd l,q4j 1 4 0 x y x y 0 0 0 0 0 0 0 (.slice none 0 0)] h λv ms=>v=.string okB/\ms=[(l,wdC true k p 0 c false),(j,flP (mvF D x y)),(m,q3v W F)]:=by
 simp only[xz,xf,xA,or_false,not_or,xE,and_true,xv] at hne
 obtain⟨⟨n01,n02,n03,n04⟩,⟨n12,n13,n14⟩,⟨n23,n24⟩,n34⟩:=hne
 have key:=qaq (G:=tys) (h:=h) (vs:=[xd a,xd l,q4j 1 4 0 x y x y 0 0 0 0 0 0 0 (.slice none 0 0)]) (λ_:Unit=>True) (λ_=>_) (α:=Unit) (λκ=>True) (λκ=>.string okB) [⟨a,_,cnC false 3,⟨false,0,[]⟩⟩,⟨l,_,wdC true 2 p 0 c false,wdC true k p 0 c false⟩,⟨k,_,rsC false cap S,⟨false,0,[]⟩⟩,⟨j,flP D,flP D,flP D⟩,⟨m,q3v W F,q3v W F,q3v W F⟩] (λκ=>[⟨false,0,[]⟩,wdC true k p 0 c false,⟨false,0,[]⟩,flP (mvF D x y),q3v W F]) (λκ=>[]) [xd 0,xd 1,q4j 1 4 0 x y x y 0 0 0 0 0 0 0 (.slice none 0 0)] tysOK mixed func30 Q4R (call30) ⟨ha,hl,hk,hj,hm,xb⟩ Q3N (λκ _=>Q3N) Q56 Q3X (λκ _=>trivial) ⟨.ptr rfl,.ptr rfl,.plain rfl,xb⟩ Opens.same ?_
 .exact Q0B
 rintro⟨⟩ -
 repeat' (refine Ba ?_;first|refine Q2J ?_|refine Q2W ?_|refine Q3F ?_|refine Bc (q3p D ok x y hx hy hM 3 _ Q4R) ?_|refine Bc (qxc _) ?_|fail)
 refine Ba ?_
 refine Bj ?_
 refine Bh () ⟨xb,?_⟩
 refine Bb (.plain rfl) ?_
 refine Bb ⟨Q3S,Q3R,Q3R,xb⟩ ?_
 refine Bb xb ?_
 refine Bb Q3V ?_
 exact Bd
theorem qxj(W:World)(hW:TxOK W)(F:List By)(D:FS)(ok:q6u D)(x y:Int)(hx : -7<=x/\x<=7)(hy : -7<=y/\y<=7)(hM:D.M 4=true)(S:Nat->ByteArray)(cap k p c:Nat)(a l m j:Nat)(hne:[a,l,k,j,m].Nodup)(o oo:Bool)(h:Hp)(ha:h[a]?=some (some (cnC o j)))(hl:h[l]?=some (some (wdC true k p 0 c false)))(hk:h[k]?=some (some (rsC oo cap S)))(hm:h[m]?=some (some (q3v W F)))(hj:h[j]?=some (some (flP D))):
  CallAll prog 30 [xd a,xd l,q4j 1 4 0 x y x y 0 0 0 0 0 0 0 (.slice none 0 0)] h λv ms=>v=.string (q7f 10)/\ms=[(l,wdC true k p 0 c false),(j,flP D),(m,q3v W F)]:=by
 simp only[xz,xf,xA,or_false,not_or,xE,and_true,xv] at hne
 obtain⟨⟨n01,n02,n03,n04⟩,⟨n12,n13,n14⟩,⟨n23,n24⟩,n34⟩:=hne
 have key:=qaq (G:=tys) (h:=h) (vs:=[xd a,xd l,q4j 1 4 0 x y x y 0 0 0 0 0 0 0 (.slice none 0 0)]) (λ_:Unit=>True) (λ_=>_) (α:=Unit) (λκ=>True) (λκ=>.string (q7f 10)) [⟨a,_,cnC false 3,⟨false,0,[]⟩⟩,⟨l,_,wdC true 2 p 0 c false,wdC true k p 0 c false⟩,⟨k,_,rsC false cap S,⟨false,0,[]⟩⟩,⟨j,flP D,flP D,flP D⟩,⟨m,q3v W F,q3v W F,q3v W F⟩] (λκ=>[⟨false,0,[]⟩,wdC true k p 0 c false,⟨false,0,[]⟩,flP D,q3v W F]) (λκ=>[]) [xd 0,xd 1,q4j 1 4 0 x y x y 0 0 0 0 0 0 0 (.slice none 0 0)] tysOK mixed func30 Q4R (call30) ⟨ha,hl,hk,hj,hm,xb⟩ Q3N (λκ _=>Q3N) Q56 Q3X (λκ _=>trivial) ⟨.ptr rfl,.ptr rfl,.plain rfl,xb⟩ Opens.same ?_
 .exact Q0B
 rintro⟨⟩ -
 repeat' (refine Ba ?_;first|refine Q2J ?_|refine Q2W ?_|refine Q3F ?_|refine Bc (q3q D ok x y hx hy hM 3 _ Q4R) ?_|refine Bc (q07 W hW F 10 Q4T 4 _ Q4R) ?_|fail)
 refine Ba ?_
 refine Bj ?_
 refine Bh () ⟨xb,?_⟩
 refine Bb (.plain rfl) ?_
 refine Bb ⟨Q3S,Q3R,Q3R,xb⟩ ?_
 refine Bb xb ?_
 refine Bb Q3V ?_
 exact Bd
theorem q3r(W:World)(hW:TxOK W)(F:List By)(D:FS)(ok:q6u D)(x y:Int)(hx : -7<=x/\x<=7)(hy : -7<=y/\y<=7)(hM:D.M 4=false)(S:Nat->ByteArray)(cap k p c:Nat)(hp:p+4<cap)(h0:S p=q30 4)(h1:S (p+1)=q30 x)(h2:S (p+1+1)=q30 y)(h3:S (p+3)=q30 x)(h4:S (p+3+1)=q30 y)(a l m j:Nat)(hne:[a,l,k,j,m].Nodup)(o oo:Bool)(h:Hp)(ha:h[a]?=some (some (cnC o j)))(hl:h[l]?=some (some (wdC true k p 5 (c+5) false)))(hk:h[k]?=some (some (rsC oo cap S)))(hm:h[m]?=some (some (q3v W F)))(hj:h[j]?=some (some (flP D))):
  CallAll prog 16 [xd a,.string ⟨#[109,111,118,101]⟩,xd l] h λv ms=>v=.string okB/\ms=[(l,wdC true k (nxt (p+4) c) 0 c false),(j,flP (mvF D x y)),(m,q3v W F)]:=by
 simp only[xz,xf,xA,or_false,not_or,xE,and_true,xv] at hne
 obtain⟨⟨n01,n02,n03,n04⟩,⟨n12,n13,n14⟩,⟨n23,n24⟩,n34⟩:=hne
 have key:=qaq (G:=tys) (h:=h) (vs:=[xd a,.string ⟨#[109,111,118,101]⟩,xd l]) (λ_:Unit=>True) (λ_=>_) (α:=Unit) (λκ=>True) (λκ=>.string okB) [⟨a,_,cnC false 3,⟨false,0,[]⟩⟩,⟨l,_,wdC true 2 p 5 (c+5) false,wdC true k (nxt (p+4) c) 0 c false⟩,⟨k,_,rsC false cap S,⟨false,0,[]⟩⟩,⟨j,flP D,flP D,flP D⟩,⟨m,q3v W F,q3v W F,q3v W F⟩] (λκ=>[⟨false,0,[]⟩,wdC true k (nxt (p+4) c) 0 c false,⟨false,0,[]⟩,flP (mvF D x y),q3v W F]) (λκ=>[]) [xd 0,.string ⟨#[109,111,118,101]⟩,xd 1] tysOK mixed func16 Q4R (call16) ⟨ha,hl,hk,hj,hm,xb⟩ Q3N (λκ _=>Q3N) Q56 Q3X (λκ _=>trivial) Q4j Opens.same ?_
 .exact Q0B
 rintro⟨⟩ -
 repeat' (refine Ba ?_;first|refine Q2J ?_|refine Q2R ?_|refine Q34 ?_|fail)
 refine Ba ?_
 refine Bg (q1e W hW F D ok x y hx hy hM S cap 2 (nxt (p+4) c) c 0 1 4 3 Q4T false false _ Q4R Q4R Q4R Q4R Q4R) λv ms hR=>?_
 obtain⟨rfl,rfl⟩:=hR
 repeat' (refine Ba ?_;first|refine Q2J ?_|refine Q2R ?_|fail)
 refine Ba ?_
 refine Bj ?_
 refine Bh () ⟨xb,?_⟩
 refine Bb (.plain rfl) ?_
 refine Bb ⟨Q3S,Q3R,Q3R,xb⟩ ?_
 refine Bb xb ?_
 refine Bb Q3V ?_
 exact Bd
theorem q1f(W:World)(hW:TxOK W)(F:List By)(D:FS)(ok:q6u D)(x y:Int)(hx : -7<=x/\x<=7)(hy : -7<=y/\y<=7)(hM:D.M 4=true)(S:Nat->ByteArray)(cap k p c:Nat)(hp:p+4<cap)(h0:S p=q30 4)(h1:S (p+1)=q30 x)(h2:S (p+1+1)=q30 y)(h3:S (p+3)=q30 x)(h4:S (p+3+1)=q30 y)(a l m j:Nat)(hne:[a,l,k,j,m].Nodup)(o oo:Bool)(h:Hp)(ha:h[a]?=some (some (cnC o j)))(hl:h[l]?=some (some (wdC true k p 5 (c+5) false)))(hk:h[k]?=some (some (rsC oo cap S)))(hm:h[m]?=some (some (q3v W F)))(hj:h[j]?=some (some (flP D))):
  CallAll prog 16 [xd a,.string ⟨#[109,111,118,101]⟩,xd l] h λv ms=>v=.string (q7f 10)/\ms=[(l,wdC true k (nxt (p+4) c) 0 c false),(j,flP D),(m,q3v W F)]:=by
 simp only[xz,xf,xA,or_false,not_or,xE,and_true,xv] at hne
 obtain⟨⟨n01,n02,n03,n04⟩,⟨n12,n13,n14⟩,⟨n23,n24⟩,n34⟩:=hne
 have key:=qaq (G:=tys) (h:=h) (vs:=[xd a,.string ⟨#[109,111,118,101]⟩,xd l]) (λ_:Unit=>True) (λ_=>_) (α:=Unit) (λκ=>True) (λκ=>.string (q7f 10)) [⟨a,_,cnC false 3,⟨false,0,[]⟩⟩,⟨l,_,wdC true 2 p 5 (c+5) false,wdC true k (nxt (p+4) c) 0 c false⟩,⟨k,_,rsC false cap S,⟨false,0,[]⟩⟩,⟨j,flP D,flP D,flP D⟩,⟨m,q3v W F,q3v W F,q3v W F⟩] (λκ=>[⟨false,0,[]⟩,wdC true k (nxt (p+4) c) 0 c false,⟨false,0,[]⟩,flP D,q3v W F]) (λκ=>[]) [xd 0,.string ⟨#[109,111,118,101]⟩,xd 1] tysOK mixed func16 Q4R (call16) ⟨ha,hl,hk,hj,hm,xb⟩ Q3N (λκ _=>Q3N) Q56 Q3X (λκ _=>trivial) Q4j Opens.same ?_
 .exact Q0B
 rintro⟨⟩ -
 repeat' (refine Ba ?_;first|refine Q2J ?_|refine Q2R ?_|refine Q34 ?_|fail)
 refine Ba ?_
 refine Bg (qxj W hW F D ok x y hx hy hM S cap 2 (nxt (p+4) c) c 0 1 4 3 Q4T false false _ Q4R Q4R Q4R Q4R Q4R) λv ms hR=>?_
 obtain⟨rfl,rfl⟩:=hR
 repeat' (refine Ba ?_;first|refine Q2J ?_|refine Q2R ?_|fail)
 refine Ba ?_
 refine Bj ?_
 refine Bh () ⟨xb,?_⟩
 refine Bb (.plain rfl) ?_
 refine Bb ⟨Q3S,Q3R,Q3R,xb⟩ ?_
 refine Bb xb ?_
 refine Bb Q3V ?_
 exact Bd
def qun:ByteArray:=⟨#[32]⟩
def mvT(a b:Int):ByteArray:=⟨#[109,111,118,101,32,52,32]⟩++q30 a++qun++q30 b++qun++q30 a++qun++q30 b
def mvL(a b:Int):List ByteArray:=[⟨#[109,111,118,101]⟩,q30 4,q30 a,q30 b,q30 a,q30 b]
def mvB(a b:Int):Bool:=decide ((mvT a b).size<=2500)&&decide (Lib.countB (mvT a b) ⟨#[32]⟩+1=(mvL a b).length)&&decide (Lib.splitB ⟨#[32]⟩ 0 (Lib.countB (mvT a b) ⟨#[32]⟩) (mvT a b)=mvL a b)&&decide ((mvL a b).filter full=mvL a b)
theorem q3s:(List.range 15).all (λi=>(List.range 15).all λj=>mvB ((i:Int)-7) ((j:Int)-7))=true:=by decide +kernel
theorem jdk{a b:Int}(ha : -7<=a/\a<=7)(hb : -7<=b/\b<=7):mvB a b=true:=by
 have h1:=xJ.1 q3s (a+7).toNat (yX.2 Q4P);have h2:=xJ.1 h1 (b+7).toNat (yX.2 Q4P);have e1:(((a+7).toNat:Nat):Int)-7=a:=by omega
 have e2:(((b+7).toNat:Nat):Int)-7=b:=by omega
 rwa[e1,e2] at h2
theorem qp1{a b:Int}(ha : -7<=a/\a<=7)(hb : -7<=b/\b<=7):(mvT a b).size<=2500/\Lib.countB (mvT a b) ⟨#[32]⟩+1=(mvL a b).length/\Lib.splitB ⟨#[32]⟩ 0 (Lib.countB (mvT a b) ⟨#[32]⟩) (mvT a b)=mvL a b/\(mvL a b).filter full=mvL a b:=by
 have h:=jdk ha hb;unfold mvB at h;simp only[xi,xu] at h;exact⟨h.1.1.1,h.1.1.2,h.1.2,h.2⟩
theorem jcd(W:World)(hW:TxOK W)(F:List By)(D:FS)(ok:q6u D)(x y:Int)(hx : -7<=x/\x<=7)(hy : -7<=y/\y<=7)(hM:D.M 4=false)(a j m:Nat)(hne:[a,j,m].Nodup)(h:Hp)(ha:h[a]?=some (some (cnC true j)))(hj:h[j]?=some (some (flP D)))(hm:h[m]?=some (some (q3v W F))):
  CallAll prog 7 [xd a,.string (mvT x y)] h λv ms=>v=.string okB/\ms=[(j,flP (mvF D x y)),(m,q3v W F)]:=by
 obtain⟨f1,f2,f3,f4⟩:=qp1 hx hy
 refine qal (qmu W hW F D (mvT x y) (mvL x y) f1 (by show 6<=2501;decide) f2 f3 ⟨#[109,111,118,101]⟩ [q30 4,q30 x,q30 y,q30 x,q30 y] f4 ⟨#[]⟩ false Q50 (λa j m o h hne ha hj hm=>q6q W hW F D _ Q4T Q4T Q4T Q4T a j m o h hne ha hj hm) (λV D' F'=>V=okB/\D'=(mvF D x y)/\F'=F) (λa j m k l cap o h hne hc ha hj hm hk hl=>?_) a j m hne h ha hj hm) λv ms hR=>?_
 .obtain⟨c,rfl⟩:∃c,cap=c+6:=⟨cap-6,by have hc:5+1<=cap:=hc;omega⟩;refine qal (q3r W hW F D ok x y hx hy hM (qa8 (mvL x y)) (c+6) k 1 c Q4P rfl rfl rfl rfl rfl a l m j (nd5 hne) o true h ha hl hk hm hj) λv ms hR=>?_
  exact Q1p
 .exact Q1q
theorem q3t(W:World)(hW:TxOK W)(F:List By)(D:FS)(ok:q6u D)(x y:Int)(hx : -7<=x/\x<=7)(hy : -7<=y/\y<=7)(hM:D.M 4=true)(a j m:Nat)(hne:[a,j,m].Nodup)(h:Hp)(ha:h[a]?=some (some (cnC true j)))(hj:h[j]?=some (some (flP D)))(hm:h[m]?=some (some (q3v W F))):
  CallAll prog 7 [xd a,.string (mvT x y)] h λv ms=>v=.string (q7f 10)/\ms=[(j,flP D),(m,q3v W F)]:=by
 obtain⟨f1,f2,f3,f4⟩:=qp1 hx hy
 refine qal (qmu W hW F D (mvT x y) (mvL x y) f1 (by show 6<=2501;decide) f2 f3 ⟨#[109,111,118,101]⟩ [q30 4,q30 x,q30 y,q30 x,q30 y] f4 ⟨#[]⟩ false Q50 (λa j m o h hne ha hj hm=>q6q W hW F D _ Q4T Q4T Q4T Q4T a j m o h hne ha hj hm) (λV D' F'=>V=(q7f 10)/\D'=D/\F'=F) (λa j m k l cap o h hne hc ha hj hm hk hl=>?_) a j m hne h ha hj hm) λv ms hR=>?_
 .obtain⟨c,rfl⟩:∃c,cap=c+6:=⟨cap-6,by have hc:5+1<=cap:=hc;omega⟩;refine qal (q1f W hW F D ok x y hx hy hM (qa8 (mvL x y)) (c+6) k 1 c Q4P rfl rfl rfl rfl rfl a l m j (nd5 hne) o true h ha hl hk hm hj) λv ms hR=>?_
  exact Q1p
 .exact Q1q
theorem q1g{D:FS}(ok:q4z D)(a b:Int):q4z (mvF D a b) where
 n:=ok.n
 on:=ok.on
 E:=ok.E
 V:=λm hm=>by
  have e1:q4t D.P 4 (D.P (4*2)+a) (D.P (4*2+1)+b) (m*2)=D.P (m*2):=by
   unfold q4t;rw[if_neg Q4P,if_neg Q4P]
  have e2:q4t D.P 4 (D.P (4*2)+a) (D.P (4*2+1)+b) (m*2+1)=D.P (m*2+1):=by
   unfold q4t;rw[if_neg Q4P,if_neg Q4P]
  show(D.s m).fv=true/\inP (D.s m).fx (D.s m).fy (D.s m).fa (D.s m).fb (D.s m).fd (q4t D.P 4 (D.P (4*2)+a) (D.P (4*2+1)+b) (m*2)) (q4t D.P 4 (D.P (4*2)+a) (D.P (4*2+1)+b) (m*2+1));rw[e1,e2];exact ok.V m hm
 N:=ok.N
theorem q9u(P:Nat->Int)(a b:Int):q4t P 4 a b (4*2)=a/\q4t P 4 a b (4*2+1)=b:=by
 unfold q4t;exact⟨rfl,rfl⟩
open Go Go.RowKit Sx
structure MvS where
 k:Nat
 x:Int
 y:Int
 D:FS
 A:List Am
 F:List By
structure MvI(W:World)(s:MvS):Prop where
 C:s.D.C=cfF
 n:s.D.n=5
 sure:q4z s.D
 tm:s.D.tm=s.k
 lost:0<=s.D.lost/\s.D.lost<=1000000
 A:AirA W s.F s.D.L s.A
 M:s.D.M 4=false
 P:s.D.P (4*2)=s.x/\s.D.P (4*2+1)=s.y
 b:4000-7*s.k<=s.x/\s.x<=4000+7*s.k/\-(7*s.k)<=s.y/\s.y<=7*s.k
 N:∀m,m<5->NdK cfF s.k m true (s.D.s m)
 k:s.k<=30
theorem MvI.mv{W:World}{s:MvS}(h:MvI W s):q6u s.D where
 n:=by rw[h.n];decide
 on:=h.sure.on 4 Q4T
 c2:=by rw[h.C];rfl
 c3:=by rw[h.C];rfl
 P:=by
  have:=h.b;have:=h.k;rw[h.P.1,h.P.2];unfold wiB;omega
 v:=h.sure.N 4 Q4T Q4T
theorem MvI.tk{W:World}{s:MvS}(h:MvI W s)(a b:Int):q9t W s.F (mvF s.D a b) s.A where
 n:=by show 1<=s.D.n/\s.D.n<=64;rw[h.n];decide
 h4:=by show 0<=s.D.C 4/\s.D.C 4<=100;rw[h.C];decide
 h5:=by show 0<=s.D.C 5/\s.D.C 5<=1000;rw[h.C];decide
 t:=by
  have:=h.k;show 0<=s.D.tm/\s.D.tm<750000;rw[h.tm];omega
 l:=h.lost
 A:=h.A
 N:=λm hm=>by
  have hm5:m<5:=by
   have hm:m<s.D.n:=hm;rw[h.n] at hm;exact hm
  exact(h.N m hm5).tick (by have:=h.k;omega) Q4P
theorem qmx(W:World)(g:Rz)(F:List By):MvI W ⟨0,4000,0,ftF g,[],F⟩ where
 C:=rfl
 n:=rfl
 sure:=qkp g
 tm:=rfl
 lost:=show(0:Int)<=0/\(0:Int)<=1000000 by decide
 A:=.nil
 M:=rfl
 P:=⟨rfl,rfl⟩
 b:=by show(4000:Int)-7*((0:Nat):Int)<=4000/\(4000:Int)<=4000+7*((0:Nat):Int)/\-(7*((0:Nat):Int))<=0/\(0:Int)<=7*((0:Nat):Int);decide
 N:=λm hm=>by
  have hk:=qt5 cfF qud Q4T 0 m 0 Q4T;show NdK cfF 0 m true (q33 cfF m);exact Q1z
 k:=xo _
abbrev MvS.next(s:MvS)(a b:Int)(L':List Ml)(B':List By):MvS:=⟨s.k+1,s.x+a,s.y+b,q39 (mvF s.D a b) L' (tickZ (mvF s.D a b) s.A (mvF s.D a b).n),(tickZ (mvF s.D a b) s.A (mvF s.D a b).n).2.1,B'⟩
theorem MvI.next{W:World}{s:MvS}(h:MvI W s)(hk:s.k<30){a b:Int}(ha : -7<=a/\a<=7)(hb : -7<=b/\b<=7){L':List Ml}{B':List By}(hA:AirA W B' L' (tickZ (mvF s.D a b) s.A (mvF s.D a b).n).2.1):MvI W (s.next a b L' B') where
 C:=h.C
 n:=h.n
 sure:=qmw L' (q1g h.sure a b)
 tm:=by
  show s.D.tm+1=((s.k+1:Nat):Int);rw[h.tm];omega
 lost:=qgk _ _ _ _ _ _ _ h.lost _
 A:=hA
 M:=rfl
 P:=by
  obtain⟨e1,e2⟩:=q9u s.D.P (s.D.P (4*2)+a) (s.D.P (4*2+1)+b);refine⟨e1.trans ?_,e2.trans ?_⟩
  .rw[h.P.1]
  .rw[h.P.2]
 b:=by
  have:=h.b;show 4000-7*((s.k+1:Nat):Int)<=s.x+a/\s.x+a<=4000+7*((s.k+1:Nat):Int)/\-(7*((s.k+1:Nat):Int))<=s.y+b/\s.y+b<=7*((s.k+1:Nat):Int);omega
 N:=λm hm=>by
  have hm2:m<s.D.n:=by rw[h.n];exact hm
  show NdK cfF (s.k+1) m true ((tickZ (mvF s.D a b) s.A s.D.n).1 m);rw[qic,qkn _ _ _ _ _ hm2,if_pos (h.sure.on m hm)];refine(h.N m hm).tickS Q4P _ ?_;have h1:=h.tm;show 0<=q6t _ (s.D.tm+1)/\q6t _ (s.D.tm+1)<=1000000;unfold q6t;omega
 k:=hk
theorem qxk{H:Type}{enc:TypeId×Value->H}{W:World}{r:Reach}{base:Nat}{v:Value}{d:DataW H}{p:List MemPlace}(hv:Value.okWide prog W r base 22 v)(h:DataW.Trod enc prog W 0 (λ_=>true) true 22 v d p):
  v=.slice none 0 0\/∃(b o n cap:Nat)(z:Nat->Int×Int),v=.slice (some ⟨b,o,none⟩) n cap/\n<=9223372036854775807/\b<W.heap.size/\∀i,i<n->∀j v,[xc (z i).1,xc (z i).2][j]?=some v->W.cell? ⟨b,o+i*2+j,none⟩=some v:=by
 have hsh:=qng underlying22 hv
 obtain⟨A,n,cap,f,rfl,hl,hm,hd,hseg,hrow⟩:=qr7 (C:=2) underlying22 Q4U h hsh
 cases A with
 | none=>
  obtain⟨rfl,rfl⟩:=qp9 underlying22 hv;exact .inl rfl
 | some a=>
  obtain⟨h1,h2,_⟩:=qhn underlying22 hv;obtain⟨b,o,sp⟩:=a;have h1:sp=none:=h1;subst h1;refine .inr ⟨b,o,n,cap,λi=>(intOf (f (i*2+0)),intOf (f (i*2+1))),rfl,by simp only[maxLen] at hm;omega,h2,λi hi j v hj=>?_⟩;obtain⟨x,fuel,cs,ht,hcl,hc⟩:=hrow i hi;have k0:=(qoq (d:=6) (t:=25) (l:=3) (j:=0) Q4U (@underlying3) (hc 0 Q4P) ht).1;have k1:=(qoq (d:=6) (t:=25) (l:=3) (j:=1) Q4U (@underlying3) (hc 1 Q4P) ht).1;have hj9:j<2:=by have:=(xe.1 hj).1;simpa using this
  obtain⟨x,hx,_,hc⟩:=hseg Q4P;obtain rfl:(⟨b,o,none⟩:Addr)=x:=by simpa using hx
  have:=hc (i*2+j) Q4P;rw[qb7,<-xX] at this;rw[this]
  match j,hj9 with
  | 0,_=>exact congrArg some (k0.trans Q5B)
  | 1,_=>exact congrArg some (k1.trans Q5B)
theorem MvI.mv2{W:World}{s:MvS}(h:MvI W s){a b:Int}(ha : -7<=a/\a<=7)(hb : -7<=b/\b<=7):q6u (mvF s.D a b) where
 n:=h.mv.n
 on:=h.mv.on
 c2:=h.mv.c2
 c3:=h.mv.c3
 P:=by
  obtain⟨e1,e2⟩:=q9u s.D.P (s.D.P (4*2)+a) (s.D.P (4*2+1)+b);have:=h.b;have:=h.k;show wiB (q4t s.D.P 4 (s.D.P (4*2)+a) (s.D.P (4*2+1)+b) (4*2)) (q4t s.D.P 4 (s.D.P (4*2)+a) (s.D.P (4*2+1)+b) (4*2+1)) 4000000;rw[e1,e2,h.P.1,h.P.2];unfold wiB;omega
 v:=h.mv.v
theorem sq0(a:Int):0<=a*a:=by
 rw[<-Int.natAbs_mul_self' a];exact x7 Q4P Q4P
theorem qyz(a b:Int)(ρ:Rz):den ρ (.agg ⟨[xc a,xc b]⟩)=.agg ⟨[xc a,xc b]⟩:=by simp[den,den2,den1,den0]
theorem q9v(x:Int): -7<=x.tmod 8/\x.tmod 8<=7:=by
 have h1:=Int.tmod_lt_of_pos x (show(0:Int)<8 by decide);have h2:=Int.tmod_lt_of_pos (-x) (show(0:Int)<8 by decide);rw[Int.neg_tmod] at h2;omega
theorem q3u(b0 o0 n0 cap:Nat)(z:Nat->Int×Int)(hn0:n0<=9223372036854775807)(W:World)(hW:TxOK W)(hz:∀i,i<n0->∀j v,[xc (z i).1,xc (z i).2][j]?=some v->W.cell? ⟨b0,o0+i*2+j,none⟩=some v):
  xa 3 #[.slice (some ⟨b0,o0,none⟩) n0 cap] W (.bool true):=by
 refine qmn (vs:=[.slice (some ⟨b0,o0,none⟩) n0 cap]) W tysOK mixed func3 Q4R hW.pos rfl rfl ?_
 repeat' (refine Ba ?_;first|refine Q2J ?_|refine Q2R ?_|fail)
 refine Ba ?_
 refine Bg Q4J λv ms hR=>?_
 obtain⟨g,rfl,rfl⟩:=hR
 repeat' (refine Ba ?_;first|refine Q2J ?_|refine Q2R ?_|fail)
 have e2:okB=⟨#[111,107]⟩:=rfl
 have e4:q8e=⟨#[121,101,115]⟩:=rfl
 have e10:q7f 10=⟨#[101,114,114,111,114,32,49,48]⟩:=by decide +kernel
 have e00:((0:Nat):Int)=0:=rfl
 refine Ba ?_
 refine Bo (α:=MvS) (λs=>MvI W s/\s.k<=n0) (λs=>n0-s.k) (λs=>[(4,xc s.x),(5,xc s.y),(15,xc (s.k:Int))]) (λs=>[(0,q3v W s.F),(2,flP s.D)]) ⟨0,4000,0,ftF g,[],[]⟩ [(0,0),(1,1),(2,2)] ⟨qmx W g [],xo _⟩ ?_ ?_
 .repeat' (refine Ba ?_;first|exact Bd|refine Q2P ?_|refine Bb (reI e00) ?_|refine Q2X ?_|fail)
 clear e00
 rintro q ⟨hI,hq⟩
 have hk:=hI.k
 by_cases hi:q.k<n0
 rotate_left
 .repeat' (refine Ba ?_;first|refine Q2J ?_|refine Be (xj (by show ¬ _<_;omega)) ?_|fail)
  have lx:=qbr q.x Q5d;have ly:=qbr q.y Q5d;have lc:(ByteArray.mk #[44]).size=1:=rfl;have e6:q30 (q.D.P (4*2))++q4f++q30 (q.D.P (4*2+1))=q30 q.x++⟨#[44]⟩++q30 q.y:=by rw[hI.P.1,hI.P.2];rfl
  refine Ba ?_;refine Bg Q4c λv ms hR=>?_
  obtain⟨rfl,rfl⟩:=hR;repeat' (refine Ba ?_;first|refine Q2J ?_|refine Q3e ?_|fail)
  refine Ba ?_;refine Bg Q4O λv ms hR=>?_
  obtain⟨rfl,rfl⟩:=hR;repeat' (refine Ba ?_;first|refine Q2J ?_|refine Q2R ?_|refine Q39 ?_|fail)
  refine Ba ?_;refine Bg (qkq W hW q.F 0 _ Q4R) λv ms hR=>?_
  obtain⟨F',_,rfl,rfl⟩:=hR;repeat' (refine Ba ?_;first|refine Q2J ?_|exact N.mk ⟨rfl,F',rfl⟩|fail)
 by_cases h30:q.k=30
 .repeat' (refine Ba ?_;first|refine Q2J ?_|refine Q3i ?_|refine Bf (xg (by show _<=_;omega)) ?_|refine Bf (xg (by show _<_;omega)) ?_|fail)
  have lx:=qbr q.x Q5d;have ly:=qbr q.y Q5d;have lc:(ByteArray.mk #[44]).size=1:=rfl;have e6:q30 (q.D.P (4*2))++q4f++q30 (q.D.P (4*2+1))=q30 q.x++⟨#[44]⟩++q30 q.y:=by rw[hI.P.1,hI.P.2];rfl
  refine Ba ?_;refine Bg Q4c λv ms hR=>?_
  obtain⟨rfl,rfl⟩:=hR;repeat' (refine Ba ?_;first|refine Q2J ?_|refine Q3e ?_|fail)
  refine Ba ?_;refine Bg Q4O λv ms hR=>?_
  obtain⟨rfl,rfl⟩:=hR;repeat' (refine Ba ?_;first|refine Q2J ?_|refine Q2R ?_|refine Q39 ?_|fail)
  refine Ba ?_;refine Bg (qkq W hW q.F 0 _ Q4R) λv ms hR=>?_
  obtain⟨F',_,rfl,rfl⟩:=hR;repeat' (refine Ba ?_;first|refine Q2J ?_|exact N.mk ⟨rfl,F',rfl⟩|fail)
 repeat' (refine Ba ?_;first|refine Q2J ?_|refine Q3i ?_|refine Be (xj (by show ¬ _<=_;omega)) ?_|refine Bf (xg (by show _<_;omega)) ?_|fail)
 refine Ba ?_
 have ha:=q9v (z q.k).1
 have hb:=q9v (z q.k).2
 generalize (z q.k).1.tmod 8=a at *
 generalize (z q.k).2.tmod 8=b at *
 have la:=qbr a ⟨by omega,by omega⟩
 have lb:=qbr b ⟨by omega,by omega⟩
 have lc:(ByteArray.mk #[32]).size=1:=rfl
 have ld:(ByteArray.mk #[109,111,118,101,32,52,32]).size=7:=rfl
 repeat' (refine Ba ?_;first|refine Q2J ?_|refine Bc (qf3 W hW q.F a ⟨by omega,by omega⟩ 0 _ Q4R) ?_|refine Bc (qf3 W hW q.F b ⟨by omega,by omega⟩ 0 _ Q4R) ?_|refine Bm _ (qif _ _ _ _ (by simp only[ByteArray.size_append,lc,ld];omega)) ?_|fail)
 have qa:a*a<=49/\0<=a*a:=by
  have:=x7 (show 0<=a+7 by omega) (show 0<=7-a by omega);rw[Int.add_mul,yM,yM] at this;exact⟨by omega,sq0 a⟩
 have qb:b*b<=49/\0<=b*b:=by
  have:=x7 (show 0<=b+7 by omega) (show 0<=7-b by omega);rw[Int.add_mul,yM,yM] at this;exact⟨by omega,sq0 b⟩
 have e9:IntKind.i64.wrap (IntKind.i64.wrap (a*a)+IntKind.i64.wrap (b*b))<=100:=by
  rw[IntWalk.i64_in (a*a) Q4P,IntWalk.i64_in (b*b) Q4P,IntWalk.i64_in _ Q4P];omega
 refine Ba ?_
 refine Bg (jcd W hW q.F q.D hI.mv a b ha hb hI.M 1 2 0 Q4T _ Q4R Q4R Q4R) λv ms hR=>?_
 obtain⟨rfl,rfl⟩:=hR
 repeat' (refine Ba ?_;first|refine Q2J ?_|refine Q2T ?_|refine Q3n ?_|refine Be (by rw[xg e2,xg e9];rfl) ?_|fail)
 refine Ba ?_
 refine Bg (q3t W hW q.F (mvF q.D a b) (hI.mv2 ha hb) a b ha hb rfl 1 2 0 Q4T _ Q4R Q4R Q4R) λv ms hR=>?_
 obtain⟨rfl,rfl⟩:=hR
 repeat' (refine Ba ?_;first|refine Q2J ?_|refine Q2R ?_|refine Q39 ?_|fail)
 refine Ba ?_
 refine Bg (qul W hW q.F (mvF q.D a b) q.A (hI.tk a b) 1 2 0 Q4T _ Q4R Q4R Q4R) λv ms hR=>?_
 obtain⟨L',B',hA,hB,rfl,rfl⟩:=hR
 repeat' (refine Ba ?_;first|refine Q2J ?_|refine Q2R ?_|refine Q39 ?_|fail)
 have e7:q.x+a=IntKind.i64.wrap (q.x+a):=by have:=hI.b;rw[IntWalk.i64_in _ Q4P]
 have e8:q.y+b=IntKind.i64.wrap (q.y+b):=by have:=hI.b;rw[IntWalk.i64_in _ Q4P]
 have e11:((q.k+1:Nat):Int)=IntKind.i64.wrap ((q.k:Int)+1):=by rw[IntWalk.i64_in _ Q4P];rfl
 refine Ba ?_
 refine Bl (α:=MvS) (q.next a b L' B') [(0,0),(1,1),(2,2)] ⟨⟨hI.next Q4P ha hb hA,hi⟩,by show n0-(q.k+1)<n0-q.k;omega⟩ ?_
 repeat' (refine Ba ?_;first|exact Bd|refine Q2P ?_|refine Bb (reI e7) ?_|refine Bb (reI e8) ?_|refine Bb (reI e11) ?_|refine Q2X ?_|fail)
theorem qup(W:World)(hW:TxOK W):xa 3 #[.slice none 0 0] W (.bool true):=by
 refine qmn (vs:=[.slice none 0 0]) W tysOK mixed func3 Q4R hW.pos rfl rfl ?_;refine Q0k ?_;refine Bg Q4J λv ms hR=>?_
 obtain⟨g,rfl,rfl⟩:=hR;have e4:q8e=⟨#[121,101,115]⟩:=rfl;have e2:okB=⟨#[111,107]⟩:=rfl;have e10:q7f 10=⟨#[101,114,114,111,114,32,49,48]⟩:=by decide +kernel
 repeat' (refine Ba ?_;first|refine Q2J ?_|refine Q2W ?_|refine Bq 1 ?_|fail)
 have lx:=qbr 4000 ⟨by decide,by decide⟩;have ly:=qbr 0 ⟨by decide,by decide⟩;have lc:(ByteArray.mk #[44]).size=1:=rfl;have e6:q30 ((ftF g).P (4*2))++q4f++q30 ((ftF g).P (4*2+1))=q30 4000++⟨#[44]⟩++q30 0:=by rfl
 refine Ba ?_;refine Bg (qf4 W hW [] (ftF g) (qmx W g []).mv.n (by show q35 4000;exact⟨by decide,by decide⟩) (by show q35 0;exact⟨by decide,by decide⟩) 1 2 0 Q4T _ Q4R Q4R Q4R) λv ms hR=>?_
 obtain⟨rfl,rfl⟩:=hR;repeat' (refine Ba ?_;first|refine Q2J ?_|refine Q3n ?_|refine Bc (qf3 W hW [] 4000 ⟨by decide,by decide⟩ 0 _ Q4R) ?_|refine Bc (qf3 W hW [] 0 ⟨by decide,by decide⟩ 0 _ Q4R) ?_|refine Bm _ (qif _ _ _ _ Q5F) ?_|refine Bf (xg e6) ?_|fail)
 refine Ba ?_;refine Bg (qko W hW [] (ftF g) (qkp g) 1 2 0 Q4T _ Q4R Q4R Q4R) λv ms hR=>?_
 obtain⟨rfl,rfl⟩:=hR;repeat' (refine Ba ?_;first|refine Q2J ?_|refine Q2R ?_|refine Q39 ?_|fail)
 refine Ba ?_;refine Bg (qkq W hW [] 0 _ Q4R) λv ms hR=>?_
 obtain⟨F',_,rfl,rfl⟩:=hR;repeat' (refine Ba ?_;first|refine Q2J ?_|exact N.mk ⟨rfl,F',rfl⟩|fail)
end Go.Proofs.YtggfpcfkbilkmaaGreatDoor
