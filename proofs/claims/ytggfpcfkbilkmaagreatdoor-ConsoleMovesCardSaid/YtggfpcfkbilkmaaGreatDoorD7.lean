/-
  What a fleet lets go out.
-/
import Derived.Shelf.LaysM
import Derived.Shelf.LaysC
import Derived.Shelf.Strconv.Itoa3
import Derived.Shelf.Strconv.Itoa4
import Derived.Shelf.Strconv.ParseIntPublic10
import Derived.Shelf.Strings.Cut
import Derived.Shelf.Strings.Split
import Derived.Test.YtggfpcfkbilkmaaGreatDoorProg
import Derived.Lib.Split
import Derived.Lib.SplitLaws
import Derived.Lib.CutLaws
import Derived.Lib.IndexLaws
import Derived.Lib.CountLaws
import Derived.Lib.ParseIntBCases
import Derived.Lib.ItoaMem
import Derived.Lib.ItoaLen
import Derived.Lib.AppendIntMem
import Derived.Lib.SmallJoins
import Derived.Test.YtggfpcfkbilkmaaGreatDoorD6
set_option linter.unusedVariables false
set_option linter.unusedSimpArgs false
set_option maxRecDepth 100000
set_option maxHeartbeats 20000000
open Go.Proofs.Tryz
namespace Go.Proofs
section
variable{Z Y:Prop}
theorem Q03(h:Z:=by repeat' (refine Ba ?_;first|exact Bd|refine Q2S ?_|fail)):Z:=h
theorem Q0a(h:Z:=by repeat' (refine Ba ?_;first|refine Q2J ?_|refine Be (kN Q4P) ?_|refine Bi 0 1 rfl Q4P ?_|refine Bk _ (q8c hp rfl) ?_|refine N.bnd 1 (n+1) 1 rfl ⟨rfl,by omega⟩ ?_|refine Bb ⟨Q3S,xb⟩ ?_|refine Q3B ?_|refine Bb xb ?_|exact Bd|fail)):Z:=h
theorem Q0c(h:Z:=by repeat' (refine Ba ?_;first|refine Q2J ?_|refine Q2R ?_|refine Q3B ?_|refine Bb xb ?_|exact Bd|fail)):Z:=h
theorem Q0m(h:Z:=by repeat' (refine Ba ?_;first|exact Bd|refine Q2Q ?_|fail)):Z:=h
theorem Q0o(k:Y)(h:Wr Y->Z:=by
 intro kQ;repeat' (refine Ba ?_;first|refine Q2J ?_|refine Q3l ?_|fail)
 refine Ba ?_;refine Bl (α:=Nat×List Ml×List By) (j+1,L',F') [(0,0),(1,1),(2,2),(3,3),(4,4),(5,5),(6,6),(7,7),(8,8),(9,9)] ⟨⟨hjn,by show AirA W F' L' (sendA i on (mkA C P (encB k s b q st' ds t1 t2 wh wn x y a c d) i g) (A,lost) (j+1)).1;rw[hS];exact hA',hF',hsrc⟩,by show n-(j+1)<n-j;omega⟩ ?_;exact kQ.o):Z:=h ⟨k⟩
theorem Q0r(h:Z:=by
 refine Ba ?_;refine Bj ?_;refine Bb (.plain rfl) ?_;refine Bb ⟨Q3S,Q3R,xb⟩ ?_;refine Bb xb ?_;refine Bb ⟨⟨.inl rfl,.inl rfl,.inr ⟨_,rfl,rfl⟩,xb⟩,xb⟩ ?_;exact Bd):Z:=h
theorem Q0J(h:Z:=by
 refine qal key λv ms hR=>?_
 obtain⟨κ,hκ,rfl,rfl⟩:=hR;exact⟨κ.1,κ.2,hκ.1,hκ.2,rfl,rfl⟩):Z:=h
theorem Q0N(h:Z:=by
 refine qal key λv ms hR=>?_
 obtain⟨κ,_,rfl,rfl⟩:=hR;exact⟨rfl,rfl⟩):Z:=h
theorem Q0W(k:Y)(h:Wr Y->Z:=by
 intro kQ;repeat' (refine Ba ?_;first|refine Q2J ?_|refine Bi 0 0 rfl Q4T ?_|refine Q2T ?_|fail)
 refine Ba ?_;exact kQ.o):Z:=h ⟨k⟩
theorem Q1f(h:Z:=by
 have hS2:(sendA i on (mkA C P (encB k s b q st' ds t1 t2 wh wn x y a c d) i g) (A,lost) (j+1)).2=(sendA i on (mkA C P (encB k s b q st' ds t1 t2 wh wn x y a c d) i g) (A,lost) j).2:=by rw[hS]
 refine Q0o ?_;exact Q03):Z:=h
theorem Q21(h:Z:=by
 unfold tickS;rw[if_neg hd];show List.set (List.set _ _ _) _ _=List.set (List.set _ _ _) _ _;rw[yk]):Z:=h
theorem Q2H(h:Z:=by
 rw[hS];unfold q6o;rw[if_neg hd',hv'];rfl):Z:=h
theorem Q2Q(k:Y)(h:Wr Y->Z:=by intro kQ;(first|refine Bb (.plain Q4R) ?_|refine Bb (.one (.ptr rfl)) ?_|refine Bb (.one (.slice rfl)) ?_|refine Bb (@ChunkReLe.mk _ _ _ ⟨.inr rfl⟩ id (nlr _) (nzj)) ?_|refine Bb ⟨id,nlr _,Q5k⟩ ?_|refine Bb ⟨id,nlr _,Q4W⟩ ?_|refine Bb (qa4 (qax ej) rfl) ?_|refine Bb ⟨id,nlr _,Q52⟩ ?_|refine Bb ⟨id,nlr _,qbi⟩ ?_|refine Bb ⟨id,nlr _,qbj⟩ ?_|refine Bb pr_ren ?_|refine Bb (qby λ_ _=>rfl) ?_|refine Bb (by rw[hS1];exact qby λ_ _=>rfl) ?_|fail);exact kQ.o):Z:=h ⟨k⟩
theorem Q2S(k:Y)(h:Wr Y->Z:=by intro kQ;(first|refine Bb (.plain Q4R) ?_|refine Bb (.one (.ptr rfl)) ?_|refine Bb (.one (.slice rfl)) ?_|refine Bb (@ChunkReLe.mk _ _ _ ⟨.inr rfl⟩ id (nlr _) (nzj)) ?_|refine Bb ⟨id,nlr _,Q4W⟩ ?_|refine Bb ⟨id,nlr _,Q5k⟩ ?_|refine Bb (qa4 (qax ej) rfl) ?_|refine Bb (.one .quo) ?_|refine Bb (.tuple ⟨.quo,.plain rfl,xb⟩) ?_|refine Bb ⟨id,nlr _,Q52⟩ ?_|refine Bb ⟨id,nlr _,qbi⟩ ?_|refine Bb ⟨id,nlr _,qbj⟩ ?_|fail);exact kQ.o):Z:=h ⟨k⟩
theorem Q3h(k:Y)(h:Wr Y->Z:=by intro kQ;(first|refine Bi m 1 hnd hm ?_|refine Bk _ (q7e hm) ?_|refine Bk _ (q9h hm hβ.2 rfl) ?_|refine Bf eo ?_|fail);exact kQ.o):Z:=h ⟨k⟩
theorem Q3l(k:Y)(h:Wr Y->Z:=by intro kQ;(first|refine Bf (beq_iff_eq.2 Q4P) ?_|refine Be (beq_eq_false_iff_ne.2 Q4P) ?_|refine Bi j 1 rfl hjn ?_|refine Bk _ (qd0 hjn rfl rfl) ?_|refine Bf (by rw[eo];rfl) ?_|refine Bc (qkj C n wc 1 2 3 P M tm st false false false j _ _ Q4R Q4R Q4R hjn hn.2 h5) ?_|fail);exact kQ.o):Z:=h ⟨k⟩
theorem Q3I(k:Y)(h:Wr Y->Z:=by intro kQ;(first|refine Bi m 1 rfl hm ?_|refine Bk _ (q9h hm hβ.2 rfl) ?_|fail);exact kQ.o):Z:=h ⟨k⟩
theorem Q3M(k:Y)(h:Wr Y->Z:=by intro kQ;(first|refine Bf (kY Q4P) ?_|fail);exact kQ.o):Z:=h ⟨k⟩
theorem Q3O(h:Z:=by first|exact ⟨λh=>Q5j,nlr _,lt2 Q5a (.plain rfl)⟩|fail):Z:=h
theorem Q3Q(h:Z:=by first|exact ⟨λh=>⟨rfl,nlr _⟩,nlr _,lt2 Q5a (.plain rfl)⟩|fail):Z:=h
theorem Q3S(h:Z:=by first|exact ⟨_,rfl,id,nlr _,lt2 Q5a (.plain rfl)⟩|fail):Z:=h
theorem Q3T(h:Z:=by first|exact ⟨λh=>Q5j,nlr _,q8b⟩|fail):Z:=h
theorem Q4d(h:Z:=by first|exact hW β.1 F.tm F.st true _ Q4R Q4R Q4R|fail):Z:=h
theorem Q4k(h:Z:=by first|exact jdg rfl rfl rfl rfl rfl rfl rfl|fail):Z:=h
theorem Q4C(h:Z:=by first|exact ⟨.inl rfl,.inl rfl,.inr ⟨rfl,rfl⟩,xb⟩|fail):Z:=h
theorem Q4I(h:Z:=by first|exact (hh 17 Q50).trans rfl|fail):Z:=h
theorem Q4N(h:Z:=by first|exact (hh 6 Q50).trans rfl|fail):Z:=h
theorem Q5a(h:Z:=by first|exact Re1.slice rfl|exact Re1.ptr rfl|exact Re1.plain rfl):Z:=h
theorem Q5k(h:Z:=by first|(refine q7l ?_ ?_ ?_ ?_ ?_ ?_ ?_ ?_ ?_ ?_ ?_ ?_ ?_ ?_ ?_ (qbu hS2)<;>first|exact Re1.plain rfl|exact Re1.ptr rfl|exact Re1.slice rfl)|fail):Z:=h
theorem Q5w(h:Z:=by rw[hsm];have hm:=ok.may hv;unfold q4e qbc at hm;exact qav Q4P):Z:=h
theorem Q5N(h:Z:=by rw[xt hkK,xt hiK];exact hK):Z:=h
theorem Q5O(h:Z:=by rw[hsm];exact⟨ok.tick.seq.1,by have:=ok.tick.seq.2;omega⟩):Z:=h
theorem Q5T(h:Z:=by show 0<F.n;omega):Z:=h
theorem Q5X(h:Z:=by simp[Apart,hik]):Z:=h
theorem Q5Y(h:Z:=by simp[Apart,hik,him,hkm]):Z:=h
theorem Q60(h:Z:=by rw[hsm];exact qav (by have:=ok.tick.boot;omega)):Z:=h
theorem Q63(h:Z:=by rw[hsm];exact qav (by have:=ok.tick.seq;omega)):Z:=h
theorem Q64(h:Z:=by rw[hsm];exact ok.tick):Z:=h
end
end Go.Proofs

namespace Go.Proofs.YtggfpcfkbilkmaaGreatDoor
open Go Go.RowKit Sx
inductive Own(F:List By):Option Sl->List Int->Prop
 | nil:Own F none []
 | own {e:By} (he:e∈F):Own F e.s e.bs
variable{F:List By}{u:Option Sl}{bs:List Int}
theorem Own.src{W:World}(h:Own F u bs):Src W F u bs:=by
 cases h with
 | nil=>exact .nil
 | own he=>exact .own he
theorem Own.more{F':List By}(hF:∀e∈F,e∈F')(h:Own F u bs):Own F' u bs:=by
 cases h with
 | nil=>exact .nil
 | own he=>exact .own (hF _ he)
theorem Own.or(h:Own F u bs):(u=none/\bs=[])\/∃e∈F,u=e.s/\bs=e.bs:=by
 cases h with
 | nil=>exact .inl ⟨rfl,rfl⟩
 | own he=>exact .inr ⟨_,he,rfl,rfl⟩
theorem Own.blk(h:Own F u bs){s:Sl}(hs:u=some s):s.b∈F.map By.b:=by
 cases h with
 | nil=>cases hs
 | own he=>cases hs;exact xx.2 ⟨_,he,rfl⟩
theorem qwz{F':List By}(h:Made F bs u F'):Own F' u bs:=Q2k
structure Am where
 to_:Int
 bs:List Int
 at_:Int
 tr:Int
 be:Bool
structure MlA(W:World)(F:List By)(m:Ml)(a:Am):Prop where
 to_:m.to_=a.to_
 at_:m.at_=a.at_
 tr:m.tr=a.tr
 be:m.be=a.be
 own:Own F m.u a.bs
 len:a.bs.length<=1000
variable{m:Ml}
theorem MlA.src{W:World}{a:Am}(h:MlA W F m a):Src W F m.u a.bs:=h.own.src
inductive AirA(W:World)(F:List By):List Ml->List Am->Prop
 | nil:AirA W F [] []
 | cons {m:Ml} {a:Am} {L:List Ml} {A:List Am} (h:MlA W F m a) (t:AirA W F L A):AirA W F (m::L) (a::A)
variable{L:List Ml}{A:List Am}
theorem AirA.len{W:World}(h:AirA W F L A):L.length=A.length:=by
 induction h with
 | nil=>rfl
 | cons _ _ ih=>rw[yx,yx,ih]
theorem AirA.snoc{W:World}(h:AirA W F L A){a:Am}(hm:MlA W F m a):AirA W F (L++[m]) (A++[a]):=by
 induction h with
 | nil=>exact .cons hm .nil
 | cons h _ ih=>exact .cons h ih
theorem AirA.mono{W:World}{F':List By}(h:AirA W F L A)(hs:∀e,e∈F->e∈F'):AirA W F' L A:=by
 induction h with
 | nil=>exact .nil
 | cons h _ ih=>exact .cons ⟨h.to_,h.at_,h.tr,h.be,h.own.more hs,h.len⟩ ih
theorem AirA.get{W:World}(h:AirA W F L A):∀{i:Nat}{a:Am},A[i]?=some a->∃m,L[i]?=some m/\MlA W F m a:=by
 induction h with
 | nil=>intro i a ha;simp at ha
 | cons h _ ih=>
  intro i a ha;cases i with
  | zero=>exact⟨_,rfl,by simpa using (by simpa using ha:_=a)▸h⟩
  | succ i=>exact ih (by simpa using ha)
theorem AirA.erase{W:World}(h:AirA W F L A):∀i,AirA W F (L.eraseIdx i) (A.eraseIdx i):=by
 induction h with
 | nil=>intro i;exact .nil
 | cons h t ih=>
  intro i;cases i with
  | zero=>exact t
  | succ i=>exact .cons h (ih i)
def q8j(s:List Am×Int)(m:Am):List Am×Int:=if s.1.length<512 then (s.1++[m],s.2) else (s.1,min (s.2+1) 1000000)
def sendA(i:Nat)(on:Nat->Bool)(mk:Nat->Am)(s:List Am×Int):Nat->List Am×Int
 | 0=>s
 | j+1=>if j=i\/on j=false then sendA i on mk s j else q8j (sendA i on mk s j) (mk j)
theorem qgj(i:Nat)(on:Nat->Bool)(mk:Nat->Am)(s:List Am×Int)(h:0<=s.2/\s.2<=1000000):∀j,0<=(sendA i on mk s j).2/\(sendA i on mk s j).2<=1000000
 | 0=>h
 | j+1=>by
  have ih:=qgj i on mk s h j;unfold sendA;split
  .exact ih
  .unfold q8j;split
   .exact ih
   .show 0<=min ((sendA i on mk s j).2+1) 1000000/\min ((sendA i on mk s j).2+1) 1000000<=1000000;omega
def trA(P:Nat->Int)(i:Nat)(g:Int)(j:Nat):Int:=IntKind.i64.wrap (g+q4y (P (i*2)) (P (i*2+1)) (P (j*2)) (P (j*2+1)))
def fiA(C:Nat->Int)(j:Nat)(t:Int):Int:=if qh1 (q6f j 13 (C 5)) (IntKind.i64.wrap (12345*(j:Int))) t then q76 (q6f j 13 (C 5)) (IntKind.i64.wrap (12345*(j:Int))) t else 0
def mkA(C P:Nat->Int)(bs:List Int)(i:Nat)(g:Int)(j:Nat):Am:=⟨(j:Int),bs,fiA C j (trA P i g j),trA P i g j,false⟩
theorem qmq{F':List By}(h:Made F bs u F'):∀e,e∈F->e∈F':=λe he=>h.sub e he
theorem qpv{e0:By}:∀e,e∈F->e∈e0::F:=λe he=>ym _ he
variable{ix:Lz}{a:Int}
theorem qbu{k:IntKind}{b:Int}(h:a=b):Re1 ix (.int k a) (.int k b):=by subst h;exact .plain rfl
theorem qpw{k s b q st ds t1 t2 wh wn x y c d:Int}:(encB k s b q st ds t1 t2 wh wn x y a c d).length<=1000:=by
 unfold encB q9k;simp only[xP,qb8,yx,List.length_nil];decide
variable{on:Nat->Bool}
theorem q9o{x:Ext}{o o':Bool}{n:Nat}:qb4 ix (@Chunk.mk x o n [(0,n,.agg ⟨segL n λj=>.bool (on j)⟩)]) (mvP o' n on):=λj hj=>by
 have hj:j<n:=hj;have e:∀(x:Ext)(o:Bool),(@Chunk.mk x o n [(0,n,.agg ⟨segL n λj=>.bool (on j)⟩)]).f j=.bool (on j):=λx o=>by
  refine Q1b ?_;exact qdf hj
 rw[e,e];exact .plain rfl
theorem qpx(C:Nat->Int)(n cap wc:Nat)(hn:1<=n/\n<=64)(h5:0<=C 5/\C 5<=1000)(lost:Int)(hl:0<=lost/\lost<=1000000)(P:Nat->Int)(M:Nat->Bool)(tm st:Int)(X:Ext)(on:Nat->Bool)(f:Nat->Value)(W:World)(F:List By)(L:List Ml)(A:List Am)(hA:AirA W F L A)(i:Nat)(hi:i<n)(g:Int)(k s b q st' ds t1 t2 wh wn x y a c d e':Int)(oc:Nat)
  (hk:Fi k) (hs:Fi s) (hb:Fi b) (hq:Fi q) (hst:Fi st') (hds:Fi ds) (ht1:Fi t1) (ht2:Fi t2) (hwh:Fi wh) (hwn:Fi wn) (hx:Fi x) (hy:Fi y) (ha:Fi a) (hc:Fi c) (hd:Fi d) (hM:∀h,qae prog 203 [frF k s b q st' ds t1 t2 wh wn x y a c d] h (.bool true) [] [])
  (i0 i1 i2 i3 i4 i5 i6 i7 i8:Nat) (h:Hp) (h0:h[i0]?=some (some (flC C n i1 i6 i4 (.slice (some ⟨i5,0,some 0⟩) n cap) lost))) (h1:h[i1]?=some (some (wcc true C n wc i2 i3 tm st))) (h2:h[i2]?=some (some (ptP true n P))) (h3:h[i3]?=some (some (mvP true n M))) (h4:h[i4]?=some (some (onC X n on))) (h5':h[i5]?=some (some (prC cap f))) (h6:h[i6]?=some (some (airP L))) (h7:h[i7]?=some (some (q3v W F))) (h8:h[i8]?=some (some (q41 (q40 k s b q st' ds t1 t2 wh wn x y a c d e')))) (hne:[i0,i1,i2,i3,i4,i5,i6,i7,i8].Nodup) :
  CallAll prog 132 [xd i0,xc (i:Int),.slice (some ⟨i8,0,some 0⟩) 1 oc,xc g] h λv ms=>∃L' F',AirA W F' L' (sendA i on (mkA C P (encB k s b q st' ds t1 t2 wh wn x y a c d) i g) (A,lost) n).1/\(∀e,e∈F->e∈F')/\v=.tuple #[]/\ms=[(i0,flC C n i1 i6 i4 (.slice (some ⟨i5,0,some 0⟩) n cap) (sendA i on (mkA C P (encB k s b q st' ds t1 t2 wh wn x y a c d) i g) (A,lost) n).2),(i6,airP L'),(i7,q3v W F')]:=by
 have key:=qaq (G:=tys) (h:=h) (vs:=[xd i0,.int .i64 (i:Int),.slice (some ⟨i8,0,some 0⟩) 1 oc,.int .i64 g]) (λ_:Unit=>True) (λ_=>_) (α:=List Ml×List By) (λκ=>AirA W κ.2 κ.1 (sendA i on (mkA C P (encB k s b q st' ds t1 t2 wh wn x y a c d) i g) (A,lost) n).1/\∀e,e∈F->e∈κ.2) (λκ=>.tuple #[])
  [⟨i0,flC C n i1 i6 i4 (.slice (some ⟨i5,0,some 0⟩) n cap) lost,flC C n 1 6 4 (.slice (some ⟨5,0,some 0⟩) n cap) lost,(@Chunk.mk Ext.none false 0 [])⟩,⟨i1,wcc true C n wc i2 i3 tm st,wcc false C n wc 2 3 tm st,(@Chunk.mk Ext.none false 0 [])⟩,⟨i2,ptP true n P,ptP false n P,(@Chunk.mk Ext.none false 0 [])⟩,⟨i3,mvP true n M,mvP false n M,(@Chunk.mk Ext.none false 0 [])⟩,⟨i4,onC X n on,mvP false n on,(@Chunk.mk Ext.none false 0 [])⟩,⟨i5,prC cap f,(@Chunk.mk Ext.none false 0 []),(@Chunk.mk Ext.none false 0 [])⟩,⟨i6,airP L,airP L,(@Chunk.mk Ext.none false 0 [])⟩,⟨i7,q3v W F,q3v W F,(@Chunk.mk Ext.none false 0 [])⟩,⟨i8,q41 (q40 k s b q st' ds t1 t2 wh wn x y a c d e'),(@Chunk.mk Ext.none false 16 [(0,16,q40 k s b q st' ds t1 t2 wh wn x y a c d e')]),(@Chunk.mk Ext.none false 0 [])⟩]
  (λκ=>[flC C n i1 i6 i4 (.slice (some ⟨i5,0,some 0⟩) n cap) (sendA i on (mkA C P (encB k s b q st' ds t1 t2 wh wn x y a c d) i g) (A,lost) n).2,(@Chunk.mk Ext.none false 0 []),(@Chunk.mk Ext.none false 0 []),(@Chunk.mk Ext.none false 0 []),(@Chunk.mk Ext.none false 0 []),(@Chunk.mk Ext.none false 0 []),airP κ.1,q3v W κ.2,(@Chunk.mk Ext.none false 0 [])]) (λκ=>[]) [xd 0,xc (i:Int),.slice (some ⟨8,0,some 0⟩) 1 oc,xc g] tysOK mixed func132 Q4R (call132) ⟨h0,h1,h2,h3,h4,h5',h6,h7,h8,xb⟩ ?_ ?_ ?_ ?_ ?_ ?_ Opens.same ?_
 .simp only[xz,xf,xA,or_false,not_or,xE,and_true,xv] at hne;obtain⟨⟨n01,n02,n03,n04,n05,n06,n07,n08⟩,⟨n12,n13,n14,n15,n16,n17,n18⟩,⟨n23,n24,n25,n26,n27,n28⟩,⟨n34,n35,n36,n37,n38⟩,⟨n45,n46,n47,n48⟩,⟨n56,n57,n58⟩,⟨n67,n68⟩,n78⟩:=hne;exact Q0J
 .exact⟨⟨λh=>⟨rfl,xo _⟩,nlr _,Q4W⟩,Q44,Q47,Q46,⟨λh=>Q5j,nlr _,q9o⟩,Q3U,⟨λh=>⟨rfl,xo _⟩,nlr _,nzj⟩,⟨λh=>⟨rfl,xo _⟩,nlr _,nzj⟩,⟨λh=>Q5j,nlr _,Q58⟩,xb⟩
 .exact λκ _=>⟨⟨λh=>⟨rfl,nlr _⟩,nlr _,Q4W⟩,Q44,Q47,Q46,⟨λh=>Q5j,nlr _,q9o⟩,Q3U,Q3P,Q3P,⟨λh=>Q5j,nlr _,Q58⟩,xb⟩
 .simp only[xz,xf,xA,or_false,not_or,xE,and_true,xv] at hne;obtain⟨⟨n01,n02,n03,n04,n05,n06,n07,n08⟩,⟨n12,n13,n14,n15,n16,n17,n18⟩,⟨n23,n24,n25,n26,n27,n28⟩,⟨n34,n35,n36,n37,n38⟩,⟨n45,n46,n47,n48⟩,⟨n56,n57,n58⟩,⟨n67,n68⟩,n78⟩:=hne;simp[Apart, *]
 .exact⟨.inl rfl,.inl rfl,.inl rfl,.inl rfl,.inl rfl,.inl rfl,.inr ⟨rfl,rfl⟩,.inr ⟨rfl,rfl⟩,.inl rfl,xb⟩
 .exact λκ _=>trivial
 .exact⟨.ptr rfl,.plain rfl,.slice rfl,.plain rfl,xb⟩
 rintro⟨⟩ -
 repeat' (refine Ba ?_;first|refine Q2J ?_|refine Q2W ?_|fail)
 refine Ba ?_
 refine Bo (α:=Option (List Ml×List By)) (λo=>match o with
  | none=>True
  | some κ=>AirA W κ.2 κ.1 (sendA i on (mkA C P (encB k s b q st' ds t1 t2 wh wn x y a c d) i g) (A,lost) n).1/\∀e,e∈F->e∈κ.2) (λo=>match o with
  | none=>1
  | some κ=>0) (λo=>match o with
  | none=>[(16,.int .i64 0)]
  | some κ=>[(16,.int .i64 1)]) (λo=>match o with
  | none=>[]
  | some κ=>[(0,flC C n 1 6 4 (.slice (some ⟨5,0,some 0⟩) n cap) (sendA i on (mkA C P (encB k s b q st' ds t1 t2 wh wn x y a c d) i g) (A,lost) n).2),(6,airP κ.1),(7,q3v W κ.2)]) none [(0,0),(1,1),(2,2),(3,3),(4,4),(5,5),(6,6),(7,7),(8,8)] trivial ?_ ?_
 .exact Q03
 intro o ho
 cases o with
 | some κ=>
  refine Q0u ?_;refine Bj ?_;refine Bh κ ⟨ho,?_⟩;repeat' (refine Ba ?_;first|refine Q2J ?_|refine Bb (.tuple xb) ?_|refine Bb ⟨⟨_,rfl,λh=>h,nlr _,Q4W⟩,Q3R,Q3R,xb⟩ ?_|refine Bb xb ?_|refine Bb ⟨⟨.inl rfl,.inl rfl,.inl rfl,.inl rfl,.inl rfl,.inl rfl,.inr ⟨_,rfl,rfl⟩,.inr ⟨_,rfl,rfl⟩,.inl rfl,xb⟩,xb⟩ ?_|exact Bd|fail)
 | none=>
  refine Q0W ?_;refine Bg (qwu W F k s b q st' ds t1 t2 wh wn x y a c d hk hs hb hq hst hds ht1 ht2 hwh hwn hx hy ha hc hd hM 7 _ Q4R) λv ms hR=>?_
  obtain⟨ee,hee,_,rfl,rfl⟩:=hR;refine Q0W ?_;refine Bo (α:=Nat×List Ml×List By) (λzz=>zz.1<=n/\AirA W zz.2.2 zz.2.1 (sendA i on (mkA C P (encB k s b q st' ds t1 t2 wh wn x y a c d) i g) (A,lost) zz.1).1/\(∀e,e∈F->e∈zz.2.2)/\Src W zz.2.2 ee.s ee.bs) (λzz=>n-zz.1) (λzz=>[(31,xc (zz.1:Int))]) (λzz=>[(0,flC C n 1 6 4 (.slice (some ⟨5,0,some 0⟩) n cap) (sendA i on (mkA C P (encB k s b q st' ds t1 t2 wh wn x y a c d) i g) (A,lost) zz.1).2),(6,airP zz.2.1),(7,q3v W zz.2.2)]) (0,L,ee::F) [(0,0),(1,1),(2,2),(3,3),(4,4),(5,5),(6,6),(7,7),(8,8),(9,9)] ⟨xo _,hA.mono qpv,qpv,.own (yp ..)⟩ ?_ ?_
  .exact Q03
  rintro⟨j,L',F'⟩ ⟨hj,hA',hF',hsrc⟩;by_cases hjn:j<n
  .have ej:((j+1:Nat):Int)=IntKind.i64.wrap ((j:Int)+1):=by rw[q36 _ Q4P Q4P];omega
   repeat' (refine Ba ?_;first|refine Q2J ?_|refine Q3j ?_|fail)
   by_cases e:j=i
   .have hS:sendA i on (mkA C P (encB k s b q st' ds t1 t2 wh wn x y a c d) i g) (A,lost) (j+1)=sendA i on (mkA C P (encB k s b q st' ds t1 t2 wh wn x y a c d) i g) (A,lost) j:=if_pos (.inl e);exact Q1f
   by_cases eo:on j=false
   .have hS:sendA i on (mkA C P (encB k s b q st' ds t1 t2 wh wn x y a c d) i g) (A,lost) (j+1)=sendA i on (mkA C P (encB k s b q st' ds t1 t2 wh wn x y a c d) i g) (A,lost) j:=if_pos (.inr eo);exact Q1f
   have eo2:on j=true:=by cases h:on j<;>first|rfl|exact absurd h eo
   have hS:sendA i on (mkA C P (encB k s b q st' ds t1 t2 wh wn x y a c d) i g) (A,lost) (j+1)=q8j (sendA i on (mkA C P (encB k s b q st' ds t1 t2 wh wn x y a c d) i g) (A,lost) j) (mkA C P (encB k s b q st' ds t1 t2 wh wn x y a c d) i g j):=if_neg (λh=>h.elim e eo);have hlen:=hA'.len;repeat' (refine Ba ?_;first|refine Q2L ?_|refine Q2N ?_|refine Be (beq_eq_false_iff_ne.2 Q4P) ?_|refine Bi j 1 rfl hjn ?_|refine Bk _ (qd0 hjn rfl rfl) ?_|refine Be (by rw[eo2];rfl) ?_|refine Bc (qwf C n wc 1 2 3 P M tm st false false false i j _ Q4R Q4R Q4R hi hjn) ?_|fail)
   refine Ba ?_;refine N.altP ?_;refine Ba ?_;refine Bp [0,1,2,3,4,5,6,7,8,9,10,11,12,13,14] [(15,[16])] Q4U ?_;repeat' (refine Ba ?_;first|refine Q2J ?_|refine Q3l ?_|fail)
   refine Ba ?_;by_cases hroom:L'.length<512
   .refine qbp [6,7] _ Q53 (λh₂ hh=>jb2 W F' L' _ _ _ _ ee.s ee.bs 6 7 Q4T h₂ Q4N ((hh 7 Q50).trans rfl) hsrc (by rw[hee];exact qpw) hroom) λv ms hR=>?_
    obtain⟨u2,F2,hmade,rfl,rfl⟩:=hR;refine⟨by simp,?_⟩;have hP:q8j (sendA i on (mkA C P (encB k s b q st' ds t1 t2 wh wn x y a c d) i g) (A,lost) j) (mkA C P (encB k s b q st' ds t1 t2 wh wn x y a c d) i g j)=((sendA i on (mkA C P (encB k s b q st' ds t1 t2 wh wn x y a c d) i g) (A,lost) j).1++[mkA C P (encB k s b q st' ds t1 t2 wh wn x y a c d) i g j],(sendA i on (mkA C P (encB k s b q st' ds t1 t2 wh wn x y a c d) i g) (A,lost) j).2):=if_pos (by rw[<-hlen];exact hroom);have hS2:(sendA i on (mkA C P (encB k s b q st' ds t1 t2 wh wn x y a c d) i g) (A,lost) (j+1)).2=(sendA i on (mkA C P (encB k s b q st' ds t1 t2 wh wn x y a c d) i g) (A,lost) j).2:=by rw[hS,hP]
    repeat' (refine Ba ?_;first|refine Q2J ?_|refine Q2T ?_|refine Q2W ?_|refine N.min2 ?_|fail)
    refine Ba ?_;refine Bl (α:=Nat×List Ml×List By) (j+1,L'++[⟨(j:Int),u2,fiA C j (trA P i g j),trA P i g j,false⟩],F2) [(0,0),(1,1),(2,2),(3,3),(4,4),(5,5),(6,6),(7,7),(8,8),(9,9)] ⟨⟨hjn,by show AirA W F2 _ (sendA i on (mkA C P (encB k s b q st' ds t1 t2 wh wn x y a c d) i g) (A,lost) (j+1)).1;rw[hS,hP];exact(hA'.mono (qmq hmade)).snoc ⟨rfl,rfl,rfl,rfl,by show Own F2 u2 (encB k s b q st' ds t1 t2 wh wn x y a c d);rw[<-hee];exact qwz hmade,qpw⟩,λe h=>qmq hmade e (hF' e h),hsrc.more hmade.sub⟩,by show n-(j+1)<n-j;omega⟩ ?_;repeat' (refine Ba ?_;first|exact Bd|refine Q2S ?_|fail)
   .refine qbp [6] _ Q53 (λh₂ hh=>qce (qwy L' _ _ _ _ ee.s Q4P 6 h₂ Q4N)) λv ms hR=>?_
    obtain⟨rfl,rfl⟩:=hR;refine⟨by simp,?_⟩;have hl2:=qgj i on (mkA C P (encB k s b q st' ds t1 t2 wh wn x y a c d) i g) (A,lost) hl j;have hP:q8j (sendA i on (mkA C P (encB k s b q st' ds t1 t2 wh wn x y a c d) i g) (A,lost) j) (mkA C P (encB k s b q st' ds t1 t2 wh wn x y a c d) i g j)=((sendA i on (mkA C P (encB k s b q st' ds t1 t2 wh wn x y a c d) i g) (A,lost) j).1,min ((sendA i on (mkA C P (encB k s b q st' ds t1 t2 wh wn x y a c d) i g) (A,lost) j).2+1) 1000000):=if_neg (by rw[<-hlen];exact hroom);have hS2:(sendA i on (mkA C P (encB k s b q st' ds t1 t2 wh wn x y a c d) i g) (A,lost) (j+1)).2=min (IntKind.i64.wrap ((sendA i on (mkA C P (encB k s b q st' ds t1 t2 wh wn x y a c d) i g) (A,lost) j).2+1)) 1000000:=by rw[hS,hP,q36 _ Q4P Q4P]
    repeat' (refine Ba ?_;first|refine Q2J ?_|refine Q2T ?_|refine Q2W ?_|refine N.min2 ?_|fail)
    refine Ba ?_;refine Bl (α:=Nat×List Ml×List By) (j+1,L',F') [(0,0),(1,1),(2,2),(3,3),(4,4),(5,5),(6,6),(7,7),(8,8),(9,9)] ⟨⟨hjn,by show AirA W F' L' (sendA i on (mkA C P (encB k s b q st' ds t1 t2 wh wn x y a c d) i g) (A,lost) (j+1)).1;rw[hS,hP];exact hA',hF',hsrc⟩,by show n-(j+1)<n-j;omega⟩ ?_;repeat' (refine Ba ?_;first|exact Bd|refine Q2S ?_|fail)
  .obtain rfl:j=n:=by omega
   repeat' (refine Ba ?_;first|refine Q2J ?_|refine Q3r ?_|fail)
   refine Ba ?_;refine Bl (α:=Option (List Ml×List By)) (some (L',F')) [(0,0),(1,1),(2,2),(3,3),(4,4),(5,5),(6,6),(7,7),(8,8)] ⟨⟨hA',hF'⟩,by show 0<1;decide⟩ ?_;exact Q03
abbrev rpV(v:Bool)(x y a b d:Int)(s:Value):Value:=.agg ⟨[.bool v,xc x,xc y,xc a,xc b,xc d,s]⟩
theorem qw0(s:NSt)(hE:s.T.E=[])(i:Nat)(h:Hp)(hi:h[i]?=some (some (ndP s))):
  qae prog 64 [xd i] h (rpV s.fv s.fx s.fy s.fa s.fb s.fd (.slice none 0 0)) [(i,ndP s)] []:=by
 refine qay (G:=tys) (λ_:Rz=>True) (ndH s) [⟨i,ndP s,ndP s,ndP s⟩] [] [xd 0] tysOK mixed func64 Q4R (call64) ⟨hi,xb⟩ ⟨Q3P,xb⟩ Q55 Q40 xb ⟨.ptr rfl,xb⟩ qa3 ?_
 intro g _
 repeat' (refine Ba ?_;first|refine Q2J ?_|refine Bc (qkb _ _ _ _ _ _ _ 1 _ Q4R) ?_|refine Bc (jco _ _ _ _ _ _ _ 1 _ Q4R) ?_|refine Bc (q75 s.T hE 2 _ Q4R) ?_|fail)
 refine Ba ?_
 refine qe7 s g 0 1 2 3 4 [] qf0 (λi hi=>.inl Q59) Q4R rfl rfl rfl Q4b Q4R rfl rfl re7 Q4R Q4R rfl rfl re2 Q4R rfl rfl re2 Q4R (λk hk=>by cases hk) (λk hk=>by cases hk) (qfr rfl) ?_
 refine Bb (.plain rfl) ?_
 refine Bb ⟨Q3R,xb⟩ ?_
 refine Bb xb ?_
 refine Bb Q42 ?_
 exact Bd
open Go Go.RowKit Sx
abbrev flO(W:World)(B:List By)(F:FS)(β:Nat×Nat):Hp:=[some (flC F.C F.n 2 7 5 (.slice (some ⟨6,0,some 0⟩) F.n β.2) F.lost),some (q3v W B),some (wcc true F.C F.n β.1 3 4 F.tm F.st),some (ptP true F.n F.P),some (mvP true F.n F.M),some (onC (q31 ndX F.n F.g F.s) F.n F.on),some (prC β.2 (prF F.g F.n)),some (airP F.L)]
variable{B:List By}
theorem qt0{i j:Nat}{c d c2 d2:Chunk}{W:World}{F:FS}:Opens [⟨i,c,flP F,d⟩,⟨j,c2,q3v W B,d2⟩] (q5b F) (flO W B F):=by
 refine qh6 (flO W B F) [(0,0),(1,2),(2,3),(3,4),(4,5),(5,6),(6,7)] (λl i hm=>?_) rfl (λβ=>rfl) (λβ hβ l dl hl=>?_) (λβ hβ k d' hk=>?_)
 .simp only[xf,Prod.mk.injEq,xA,or_false] at hm;rcases hm with ⟨rfl,rfl⟩|⟨rfl,rfl⟩|⟨rfl,rfl⟩|⟨rfl,rfl⟩|⟨rfl,rfl⟩|⟨rfl,rfl⟩|⟨rfl,rfl⟩<;>rfl
 .match l,hl with
  | 0,hl=>
   obtain rfl:_=dl:=by simpa using hl
   exact⟨_,rfl,rfl,rfl,Q4W⟩
  | 1,hl=>
   obtain rfl:_=dl:=by simpa using hl
   exact⟨_,rfl,rfl,rfl,Q52⟩
  | 2,hl=>
   obtain rfl:_=dl:=by simpa using hl
   exact⟨_,rfl,rfl,rfl,qbi⟩
  | 3,hl=>
   obtain rfl:_=dl:=by simpa using hl
   exact⟨_,rfl,rfl,rfl,qbj⟩
  | 4,hl=>
   obtain rfl:_=dl:=by simpa using hl
   exact⟨_,rfl,rfl,rfl,(qby λ_ _=>rfl).re⟩
  | 5,hl=>
   obtain rfl:_=dl:=by simpa using hl
   exact⟨_,rfl,rfl,rfl,pr_ren.re⟩
  | 6,hl=>
   obtain rfl:_=dl:=by simpa using hl
   exact⟨_,rfl,rfl,rfl,nzj⟩
  | l+7,hl=>simp at hl
 .match k,hk with
  | 0,_=>exact .inr ⟨0,rfl,_,rfl⟩
  | 1,_=>exact .inl rfl
  | 2,_=>exact .inr ⟨1,rfl,_,rfl⟩
  | 3,_=>exact .inr ⟨2,rfl,_,rfl⟩
  | 4,_=>exact .inr ⟨3,rfl,_,rfl⟩
  | 5,_=>exact .inr ⟨4,rfl,_,rfl⟩
  | 6,_=>exact .inr ⟨5,rfl,_,rfl⟩
  | 7,_=>exact .inr ⟨6,rfl,_,rfl⟩
  | k+8,hk=>simp at hk
def tickS(s:NSt)(now:Int):NSt:=if now<s.tx then {s with bl:=s.bn} else {s with bl:=s.bn-1,seq:=s.seq+1,tx:=now+s.te}
structure q5s(s:NSt):Prop where
 E:s.T.E=[]
 te:0<=s.te/\s.te<=1000000
 bn:0<s.bn/\s.bn<1000
 seq:0<=s.seq/\s.seq<65535
 boot:0<=s.boot/\s.boot<=65535
variable{c:Nat}{ps:Pz}
theorem qw1(n m:Nat)(g:Rz)(s:Nat->NSt)(hm:m<n)(ok:q5s (s m))(now fine:Int)(ht:0<=now/\now<=1000000)(hd:now<(s m).tx)(i k:Nat)(h:Hp)(hi:h[i]?=some (some (@Chunk.mk (q31 ndX n g s) true c ps)))(hk:h[k]?=some none):
  CallAll prog 133 [q3z (g m),xc now,xc fine] h λv ms=>v=.slice none 0 0/\ms=[(i,@Chunk.mk (q31 ndX n g (upd s m (tickS (s m) now))) true c ps)]:=by
 have hkl:=(xe.1 hk).1
 have key:=q2i (s m) ok.E now fine ht hd k ((h.set i (some (@Chunk.mk (wandX (λa=>q31 ndX n g (upd s m a)) ndX (g m)) true c ps))).set k (some (@Chunk.mk (ndX (s m)) true 0 []))) (xr Q5z)
 rw[<-qct s m] at hi
 refine qel (vs':=[xd k,.int .i64 now,.int .i64 fine]) (Y:=λa=>q31 ndX n g (upd s m a)) (Z:=ndX) (q:=g m) (a:=s m) i k hi hk (qem ndX g s hm (s m) rfl) qew ⟨.ptr,.same _,.same _,xb⟩ (qce key) λv ms hR=>?_
 obtain⟨rfl,rfl⟩:=hR
 refine⟨tickS (s m) now,[],?_,(λm hm=>by cases hm),λr r' _=>rfl,rfl,rfl⟩
 show _=_
 unfold tickS
 rw[if_pos hd]
 show List.set _ _ _=_
 rw[yk]
 rfl
theorem qw2(n m:Nat)(g:Rz)(s:Nat->NSt)(hm:m<n)(ok:q5s (s m))(hv:(s m).fv=true)(now fine:Int)(ht:0<=now/\now<=1000000)(hd:¬ now<(s m).tx)(i k K:Nat)(hkK:k≠K)(h:Hp)(hi:h[i]?=some (some (@Chunk.mk (q31 ndX n g s) true c ps)))(hk:h[k]?=some none)(hK:h[K]?=some none):
  CallAll prog 133 [q3z (g m),xc now,xc fine] h λv ms=>∃κ:Nat,1<=κ/\v=.slice (some ⟨K,0,some 0⟩) 1 κ/\ms=[(i,@Chunk.mk (q31 ndX n g (upd s m (tickS (s m) now))) true c ps),(K,q41 (q40 5 (s m).id (s m).boot (s m).seq now 0 0 0 0 0 (s m).fx (s m).fy (s m).fa (s m).fb (s m).fd fine))]:=by
 have hkl:=(xe.1 hk).1
 have hiK:i≠K:=λe=>by rw[e,hK] at hi;cases hi
 have key:=q2j (s m) ok.E hv now fine ht hd ok.te ok.bn ok.seq ok.boot k K ((h.set i (some (@Chunk.mk (wandX (λa=>q31 ndX n g (upd s m a)) ndX (g m)) true c ps))).set k (some (@Chunk.mk (ndX (s m)) true 0 []))) (xr Q5z) Q5N
 rw[<-qct s m] at hi
 refine qel (vs':=[xd k,.int .i64 now,.int .i64 fine]) (Y:=λa=>q31 ndX n g (upd s m a)) (Z:=ndX) (q:=g m) (a:=s m) i k hi hk (qem ndX g s hm (s m) rfl) qew ⟨.ptr,.same _,.same _,xb⟩ key λv ms hR=>?_
 obtain⟨κ,hκ,rfl,rfl⟩:=hR
 refine⟨tickS (s m) now,[(K,q41 (q40 5 (s m).id (s m).boot (s m).seq now 0 0 0 0 0 (s m).fx (s m).fy (s m).fa (s m).fb (s m).fd fine))],?_,(λx hx=>?_),λr r' hr=>?_,κ,hκ,rfl,rfl⟩
 .exact Q21
 .obtain rfl:=xQ.1 hx;refine⟨Ne.symm hiK,Ne.symm hkK,λl hl r r' _=>?_⟩;exact q7l (p:=λj=>den1 r (Chunk.f (q41 (q40 5 (s m).id (s m).boot (s m).seq now 0 0 0 0 0 (s m).fx (s m).fy (s m).fa (s m).fb (s m).fd fine)) j)=den1 r' (Chunk.f (q41 (q40 5 (s m).id (s m).boot (s m).seq now 0 0 0 0 0 (s m).fx (s m).fy (s m).fa (s m).fb (s m).fd fine)) j)) rfl rfl rfl rfl rfl rfl rfl rfl rfl rfl rfl rfl rfl rfl rfl rfl l hl
 .simp[den,den2,den1,den0,q4a,hr K (Ne.symm hkK)]
theorem qw3(n m:Nat)(g:Rz)(s:Nat->NSt)(hm:m<n)(ok:q5s (s m))(hv:(s m).fv=false)(now fine:Int)(ht:0<=now/\now<=1000000)(hd:¬ now<(s m).tx)(i k K:Nat)(hkK:k≠K)(h:Hp)(hi:h[i]?=some (some (@Chunk.mk (q31 ndX n g s) true c ps)))(hk:h[k]?=some none)(hK:h[K]?=some none):
  CallAll prog 133 [q3z (g m),xc now,xc fine] h λv ms=>∃κ:Nat,1<=κ/\v=.slice (some ⟨K,0,some 0⟩) 1 κ/\ms=[(i,@Chunk.mk (q31 ndX n g (upd s m (tickS (s m) now))) true c ps),(K,q41 (q40 1 (s m).id (s m).boot (s m).seq now 0 0 0 0 0 0 0 0 0 0 fine))]:=by
 have hkl:=(xe.1 hk).1
 have hiK:i≠K:=λe=>by rw[e,hK] at hi;cases hi
 have key:=q2k (s m) ok.E hv now fine ht hd ok.te ok.bn ok.seq ok.boot k K ((h.set i (some (@Chunk.mk (wandX (λa=>q31 ndX n g (upd s m a)) ndX (g m)) true c ps))).set k (some (@Chunk.mk (ndX (s m)) true 0 []))) (xr Q5z) Q5N
 rw[<-qct s m] at hi
 refine qel (vs':=[xd k,.int .i64 now,.int .i64 fine]) (Y:=λa=>q31 ndX n g (upd s m a)) (Z:=ndX) (q:=g m) (a:=s m) i k hi hk (qem ndX g s hm (s m) rfl) qew ⟨.ptr,.same _,.same _,xb⟩ key λv ms hR=>?_
 obtain⟨κ,hκ,rfl,rfl⟩:=hR
 refine⟨tickS (s m) now,[(K,q41 (q40 1 (s m).id (s m).boot (s m).seq now 0 0 0 0 0 0 0 0 0 0 fine))],?_,(λx hx=>?_),λr r' hr=>?_,κ,hκ,rfl,rfl⟩
 .exact Q21
 .obtain rfl:=xQ.1 hx;refine⟨Ne.symm hiK,Ne.symm hkK,λl hl r r' _=>?_⟩;exact q7l (p:=λj=>den1 r (Chunk.f (q41 (q40 1 (s m).id (s m).boot (s m).seq now 0 0 0 0 0 0 0 0 0 0 fine)) j)=den1 r' (Chunk.f (q41 (q40 1 (s m).id (s m).boot (s m).seq now 0 0 0 0 0 0 0 0 0 0 fine)) j)) rfl rfl rfl rfl rfl rfl rfl rfl rfl rfl rfl rfl rfl rfl rfl rfl l hl
 .simp[den,den2,den1,den0,q4a,hr K (Ne.symm hkK)]
structure NdOK(s:NSt):Prop where
 tick:q5s s
 id:0<=s.id/\s.id<64
 may:s.fv=true->q4e s.fx s.fy s.fa s.fb s.fd
def q6o(s:NSt)(now:Int):Option (List Int):=if now<s.tx then none else some (if s.fv then encB 5 s.id s.boot s.seq now 0 0 0 0 0 s.fx s.fy s.fa s.fb s.fd else encB 1 s.id s.boot s.seq now 0 0 0 0 0 0 0 0 0 0)
def q6c(on:Nat->Bool)(n:Nat)(mk:List Int->Nat->Am)(j:Nat)(z:List Am×Int):Option (List Int)->List Am×Int
 | none=>z
 | some bs=>sendA j on (mk bs) z n
def tickA(C P:Nat->Int)(n:Nat)(on:Nat->Bool)(now:Nat->Int)(g:Int)(z:(Nat->NSt)×(List Am×Int)):Nat->(Nat->NSt)×(List Am×Int)
 | 0=>z
 | j+1=>if on j=true then (upd (tickA C P n on now g z j).1 j (tickS ((tickA C P n on now g z j).1 j) (now j)),q6c on n (λbs=>mkA C P bs j g) j (tickA C P n on now g z j).2 (q6o ((tickA C P n on now g z j).1 j) (now j))) else tickA C P n on now g z j
theorem qg5(C P:Nat->Int)(n:Nat)(on:Nat->Bool)(now:Nat->Int)(g:Int)(z:(Nat->NSt)×(List Am×Int))(k:Nat):∀j,j<=k->(tickA C P n on now g z j).1 k=z.1 k
 | 0,_=>rfl
 | j+1,h=>by
  unfold tickA;split
  .show upd _ j _ k=_;rw[qed _ _ Q4P];exact qg5 C P n on now g z k j Q4P
  .exact qg5 C P n on now g z k j Q4P
theorem qgk(C P:Nat->Int)(n:Nat)(on:Nat->Bool)(now:Nat->Int)(g:Int)(z:(Nat->NSt)×(List Am×Int))(h:0<=z.2.2/\z.2.2<=1000000):∀j,0<=(tickA C P n on now g z j).2.2/\(tickA C P n on now g z j).2.2<=1000000
 | 0=>h
 | j+1=>by
  have ih:=qgk C P n on now g z h j;unfold tickA;split
  .show 0<=(q6c _ _ _ _ _ _).2/\(q6c _ _ _ _ _ _).2<=1000000;unfold q6c;split
   .exact ih
   .exact qgj _ _ _ _ ih _
  .exact ih
theorem qw4(i g:Int)(i0:Nat)(h:Hp)(c:Chunk)(h0:h[i0]?=some (some c)):qae prog 132 [xd i0,xc i,.slice none 0 0,xc g] h (.tuple #[]) [] [i0]:=by
 refine qau (G:=tys) [⟨i0,c,(@Chunk.mk Ext.none false 0 []),(@Chunk.mk Ext.none false 0 [])⟩] [] [xd 0,xc i,.slice none 0 0,xc g] tysOK mixed func132 Q4R (call132) ⟨h0,xb⟩ ⟨Q3U,xb⟩ Q55 xb Q4y ?_;repeat' (refine Ba ?_;first|refine Q2J ?_|refine Q2W ?_|exact Bd|refine Bb xb ?_|refine Bb (.tuple xb) ?_|fail)
 refine Ba ?_;refine Bq 1 ?_;repeat' (refine Ba ?_;first|refine Q2J ?_|refine Q2W ?_|exact Bd|refine Bb xb ?_|refine Bb (.tuple xb) ?_|fail)
theorem q7e{x:Ext}{n p:Nat}(h:p<n):Reads (onC x n on) p false 1 (.bool (on p)):=⟨h,rfl,qh9 h⟩
theorem qav{n:Int}(h : -70368744177664<=n/\n<=70368744177664):Fi n:=⟨by omega,by omega⟩
theorem qib(F:FS):(flP F).x≠Ext.none:=λe=>by
 have h1:∀p S w,(flP F).x.inv p S w->S p.1:=qao;exact Q1t
abbrev q39(F:FS)(L:List Ml)(z:(Nat->NSt)×(List Am×Int)):FS:=⟨F.C,F.n,F.P,λ_=>false,F.tm+1,1,L,F.g,z.1,F.on,z.2.2⟩
abbrev nowA(F:FS)(j:Nat):Int:=q6t (q6f j 7 (F.C 4)) (F.tm+1)
abbrev tickZ(F:FS)(A:List Am)(j:Nat):(Nat->NSt)×(List Am×Int):=tickA F.C F.P F.n F.on (nowA F) ((F.tm+1)*16777216+min (0+1) 16777215) (F.s,(A,F.lost)) j
theorem qw5(W:World)(B:List By)(F:FS)(hn:1<=F.n/\F.n<=64)(h4:0<=F.C 4/\F.C 4<=100)(h5:0<=F.C 5/\F.C 5<=1000)(ht:0<=F.tm/\F.tm<750000)(hl:0<=F.lost/\F.lost<=1000000)(A:List Am)(hA:AirA W B F.L A)(hN:∀m,m<F.n->NdOK (F.s m))(i j:Nat)(hij:i≠j)(h:Hp)(hi:h[i]?=some (some (flP F)))(hj:h[j]?=some (some (q3v W B))):
  CallAll prog 100 [xd i] h λv ms=>∃L' B',AirA W B' L' (tickZ F A F.n).2.1/\(∀e,e∈B->e∈B')/\v=xc 0/\ms=[(i,flP (q39 F L' (tickZ F A F.n))),(j,q3v W B')]:=by
 have key:=qaq (G:=tys) (h:=h) (vs:=[xd i]) (q5b F) (flO W B F) (α:=List Ml×List By) (λκ=>AirA W κ.2 κ.1 (tickZ F A F.n).2.1/\∀e,e∈B->e∈κ.2) (λκ=>.int .i64 0) [⟨i,flP F,flP F,flP F⟩,⟨j,q3v W B,q3v W B,q3v W B⟩] (λκ=>[flP (q39 F κ.1 (tickZ F A F.n)),q3v W κ.2]) (λκ=>[]) [xd 0] tysOK mixed func100 Q4R (call100) ⟨hi,hj,xb⟩ ⟨Q3P,Q3P,xb⟩ (λκ _=>⟨Q3P,Q3P,xb⟩) (by simp[Apart,hij]) Q4B (λκ _=>trivial) ⟨.ptr rfl,xb⟩ qt0 ?_
 .exact Q0J
 intro β hβ
 repeat' (refine Ba ?_;first|refine Q2J ?_|refine Q2W ?_|refine Bc (q03 F.C F.n β.1 2 3 4 8 F.P F.M F.tm F.st true true _ Q4R Q4R Q4R Q4R Q4T Q4T hn ht) ?_|refine Bc (jbx F.C F.n β.1 2 3 8 F.P _ (F.tm+1) 0 true true _ Q4R Q4R Q4R Q4T Q4T Q4P Q4T) ?_|fail)
 refine Ba ?_
 refine Bo (α:=Nat×List Ml×List By) (λz=>z.1<=F.n/\AirA W z.2.2 z.2.1 (tickZ F A z.1).2.1/\∀e,e∈B->e∈z.2.2) (λz=>F.n-z.1) (λz=>[(22,xc (z.1:Int))]) (λz=>[(0,flC F.C F.n 2 7 5 (.slice (some ⟨6,0,some 0⟩) F.n β.2) (tickZ F A z.1).2.2),(1,q3v W z.2.2),(5,onC (q31 ndX F.n F.g (tickZ F A z.1).1) F.n F.on),(7,airP z.2.1)]) (0,F.L,B) [(0,0),(1,1),(2,2),(3,3),(4,4),(5,5),(6,6),(7,7),(8,8)] ⟨xo _,hA,λ_ h=>h⟩ ?_ ?_
 .exact Q0m
 rintro⟨m,L',B'⟩ ⟨hm',hA',hM'⟩
 have hm':m<=F.n:=hm'
 by_cases hm:m<F.n
 .have ej:((m+1:Nat):Int)=IntKind.i64.wrap ((m:Int)+1):=by rw[q36 _ Q4P Q4P];omega
  by_cases eo:F.on m=false
  .have hS:tickZ F A (m+1)=tickZ F A m:=if_neg (by rw[eo];exact Bool.false_ne_true);have hS1:(tickZ F A (m+1)).1=(tickZ F A m).1:=by rw[hS]
   have hS2:(tickZ F A (m+1)).2.2=(tickZ F A m).2.2:=by rw[hS]
   repeat' (refine Ba ?_;first|refine Q2J ?_|refine Q3j ?_|refine Q3I ?_|refine Bk _ (q7e hm) ?_|refine Be eo ?_|fail)
   refine Ba ?_;refine Bl (α:=Nat×List Ml×List By) (m+1,L',B') [(0,0),(1,1),(2,2),(3,3),(4,4),(5,5),(6,6),(7,7),(8,8)] ⟨⟨hm,by show AirA W _ _ (tickZ F A (m+1)).2.1;rw[hS];exact hA',hM'⟩,by show F.n-(m+1)<F.n-m;omega⟩ ?_;exact Q0m
  have eo2:F.on m=true:=by cases h:F.on m<;>first|rfl|exact absurd h eo
  have hsm:(tickZ F A m).1 m=F.s m:=qg5 _ _ _ _ _ _ _ m m (nlr _);have ok:=hN m hm;have hS:tickZ F A (m+1)=(upd (tickZ F A m).1 m (tickS ((tickZ F A m).1 m) (nowA F m)),q6c F.on F.n (λbs=>mkA F.C F.P bs m ((F.tm+1)*16777216+min (0+1) 16777215)) m (tickZ F A m).2 (q6o ((tickZ F A m).1 m) (nowA F m))):=if_pos eo2;have hnow:0<=nowA F m/\nowA F m<=1000000:=by unfold nowA q6t;omega
  repeat' (refine Ba ?_;first|refine Q2L ?_|refine Q2N ?_|refine Q3j ?_|refine Q3I ?_|refine Bk _ (q7e hm) ?_|refine Bf eo2 ?_|fail)
  refine Ba ?_;refine N.altP ?_;refine Ba ?_;refine Bp [0,1,2,3,4,5,6,7,8,9,10,11,12,13,14,15,17] [(16,[]),(18,[])] Q4U ?_;repeat' (refine Ba ?_;first|refine Q2J ?_|refine Bc (jbu F.C F.n β.1 2 3 8 F.P _ (F.tm+1) _ true true true m _ Q4R Q4R Q4R hm hn.2 h4) ?_|refine Bc (qkj F.C F.n β.1 2 3 8 F.P _ (F.tm+1) _ true true true m _ _ Q4R Q4R Q4R hm hn.2 h5) ?_|fail)
  refine Ba ?_;by_cases hd:nowA F m<(F.s m).tx
  .refine qbp [5,18] _ Q53 (λh₂ hh=>qw1 F.n m F.g (tickZ F A m).1 hm Q64 (nowA F m) _ hnow (by rw[hsm];exact hd) 5 18 h₂ Q4g Q4H) λv ms hR=>?_
   obtain⟨rfl,rfl⟩:=hR;refine⟨by simp,?_⟩;have hS':tickZ F A (m+1)=(upd (tickZ F A m).1 m (tickS ((tickZ F A m).1 m) (nowA F m)),(tickZ F A m).2):=by
    rw[hS,hsm];unfold q6o;rw[if_pos hd];rfl
   have hS1:(tickZ F A (m+1)).1=upd (tickZ F A m).1 m (tickS ((tickZ F A m).1 m) (nowA F m)):=by rw[hS']
   have hS2:(tickZ F A (m+1)).2.2=(tickZ F A m).2.2:=by rw[hS']
   repeat' (refine Ba ?_;first|refine Q2J ?_|refine Q3g ?_|fail)
   refine Ba ?_;refine qbp [0] _ Q53 (λh₂ hh=>qce (qw4 _ _ 0 h₂ _ Q4h)) λv ms hR=>?_
   obtain⟨rfl,rfl⟩:=hR;refine⟨by simp,?_⟩;repeat' (refine Ba ?_;first|refine Q2J ?_|refine Q3g ?_|fail)
   refine Ba ?_;refine Bl (α:=Nat×List Ml×List By) (m+1,L',B') [(0,0),(1,1),(2,2),(3,3),(4,4),(5,5),(6,6),(7,7),(8,8)] ⟨⟨hm,by show AirA W _ _ (tickZ F A (m+1)).2.1;rw[hS'];exact hA',hM'⟩,by show F.n-(m+1)<F.n-m;omega⟩ ?_;repeat' (refine Ba ?_;first|exact Bd|refine Q2Q ?_|fail)
  .have hlost:=qgk F.C F.P F.n F.on (nowA F) ((F.tm+1)*16777216+min (0+1) 16777215) (F.s,(A,F.lost)) hl m;by_cases hv:(F.s m).fv=true
   .refine qbp [5,18,17] _ Q53 (λh₂ hh=>qw2 F.n m F.g (tickZ F A m).1 hm Q64 (by rw[hsm];exact hv) (nowA F m) _ hnow (by rw[hsm];exact hd) 5 18 17 Q4T h₂ Q4g Q4H Q4I) λv ms hR=>?_
    obtain⟨κ,hκ,rfl,rfl⟩:=hR;refine⟨by simp,?_⟩;have hd':¬ nowA F m<((tickZ F A m).1 m).tx:=by rw[hsm];exact hd
    have hv':((tickZ F A m).1 m).fv=true:=by rw[hsm];exact hv
    have hS':tickZ F A (m+1)=(upd (tickZ F A m).1 m (tickS ((tickZ F A m).1 m) (nowA F m)),sendA m F.on (mkA F.C F.P (encB 5 ((tickZ F A m).1 m).id ((tickZ F A m).1 m).boot ((tickZ F A m).1 m).seq (nowA F m) 0 0 0 0 0 ((tickZ F A m).1 m).fx ((tickZ F A m).1 m).fy ((tickZ F A m).1 m).fa ((tickZ F A m).1 m).fb ((tickZ F A m).1 m).fd) m ((F.tm+1)*16777216+min (0+1) 16777215)) (tickZ F A m).2 F.n):=Q2H;have hS1:(tickZ F A (m+1)).1=upd (tickZ F A m).1 m (tickS ((tickZ F A m).1 m) (nowA F m)):=by rw[hS']
    have hS2:(tickZ F A (m+1)).2.2=(sendA m F.on (mkA F.C F.P (encB 5 ((tickZ F A m).1 m).id ((tickZ F A m).1 m).boot ((tickZ F A m).1 m).seq (nowA F m) 0 0 0 0 0 ((tickZ F A m).1 m).fx ((tickZ F A m).1 m).fy ((tickZ F A m).1 m).fa ((tickZ F A m).1 m).fb ((tickZ F A m).1 m).fd) m ((F.tm+1)*16777216+min (0+1) 16777215)) (tickZ F A m).2 F.n).2:=by rw[hS']
    repeat' (refine Ba ?_;first|refine Q2J ?_|refine Q3g ?_|fail)
    refine Ba ?_;refine qbp [0,2,3,8,5,6,7,1,17] _ Q53 (λh₂ hh=>qpx F.C F.n β.2 β.1 hn h5 (tickZ F A m).2.2 hlost F.P (λ_=>false) (F.tm+1) _ _ F.on (prF F.g F.n) W B' L' (tickZ F A m).2.1 hA' m hm _ 5 ((tickZ F A m).1 m).id ((tickZ F A m).1 m).boot ((tickZ F A m).1 m).seq (nowA F m) 0 0 0 0 0 ((tickZ F A m).1 m).fx ((tickZ F A m).1 m).fy ((tickZ F A m).1 m).fa ((tickZ F A m).1 m).fb ((tickZ F A m).1 m).fd _ κ (qav Q4T) (by rw[hsm];exact qav (by have:=ok.id;omega)) Q60 Q63 (qav Q4P) (qav Q4T) (qav Q4T) (qav Q4T) (qav Q4T) (qav Q4T) Q5w Q5w Q5w Q5w Q5w  (λh=>q01 _ _ _ _ _ _ _ _ _ (by rw[hsm];exact⟨ok.id.1,ok.id.2⟩) (by rw[hsm];exact ok.tick.boot) Q5O hnow (by rw[hsm];exact ok.may hv) h) 0 2 3 8 5 6 7 1 17 h₂ Q4h ((hh 2 Q50).trans rfl) ((hh 3 Q50).trans rfl) Q4s ((hh 5 Q50).trans rfl) Q4N ((hh 7 Q50).trans rfl) Q4A Q4I Q4T) λv ms hR=>?_
    obtain⟨L2,B2,hA2,hM2,rfl,rfl⟩:=hR;refine⟨by simp,?_⟩;repeat' (refine Ba ?_;first|refine Q2J ?_|refine Q3g ?_|fail)
    refine Ba ?_;refine Bl (α:=Nat×List Ml×List By) (m+1,L2,B2) [(0,0),(1,1),(2,2),(3,3),(4,4),(5,5),(6,6),(7,7),(8,8)] ⟨⟨hm,by show AirA W _ _ (tickZ F A (m+1)).2.1;rw[hS'];exact hA2,λe h=>hM2 e (hM' e h)⟩,by show F.n-(m+1)<F.n-m;omega⟩ ?_;repeat' (refine Ba ?_;first|exact Bd|refine Q2Q ?_|fail)
   .have hv:(F.s m).fv=false:=by cases h:(F.s m).fv<;>first|rfl|exact absurd h hv
    refine qbp [5,18,17] _ Q53 (λh₂ hh=>qw3 F.n m F.g (tickZ F A m).1 hm Q64 (by rw[hsm];exact hv) (nowA F m) _ hnow (by rw[hsm];exact hd) 5 18 17 Q4T h₂ Q4g Q4H Q4I) λv ms hR=>?_
    obtain⟨κ,hκ,rfl,rfl⟩:=hR;refine⟨by simp,?_⟩;have hd':¬ nowA F m<((tickZ F A m).1 m).tx:=by rw[hsm];exact hd
    have hv':((tickZ F A m).1 m).fv=false:=by rw[hsm];exact hv
    have hS':tickZ F A (m+1)=(upd (tickZ F A m).1 m (tickS ((tickZ F A m).1 m) (nowA F m)),sendA m F.on (mkA F.C F.P (encB 1 ((tickZ F A m).1 m).id ((tickZ F A m).1 m).boot ((tickZ F A m).1 m).seq (nowA F m) 0 0 0 0 0 0 0 0 0 0) m ((F.tm+1)*16777216+min (0+1) 16777215)) (tickZ F A m).2 F.n):=Q2H;have hS1:(tickZ F A (m+1)).1=upd (tickZ F A m).1 m (tickS ((tickZ F A m).1 m) (nowA F m)):=by rw[hS']
    have hS2:(tickZ F A (m+1)).2.2=(sendA m F.on (mkA F.C F.P (encB 1 ((tickZ F A m).1 m).id ((tickZ F A m).1 m).boot ((tickZ F A m).1 m).seq (nowA F m) 0 0 0 0 0 0 0 0 0 0) m ((F.tm+1)*16777216+min (0+1) 16777215)) (tickZ F A m).2 F.n).2:=by rw[hS']
    repeat' (refine Ba ?_;first|refine Q2J ?_|refine Q3g ?_|fail)
    refine Ba ?_;refine qbp [0,2,3,8,5,6,7,1,17] _ Q53 (λh₂ hh=>qpx F.C F.n β.2 β.1 hn h5 (tickZ F A m).2.2 hlost F.P (λ_=>false) (F.tm+1) _ _ F.on (prF F.g F.n) W B' L' (tickZ F A m).2.1 hA' m hm _ 1 ((tickZ F A m).1 m).id ((tickZ F A m).1 m).boot ((tickZ F A m).1 m).seq (nowA F m) 0 0 0 0 0 0 0 0 0 0 _ κ (qav Q4T) (by rw[hsm];exact qav (by have:=ok.id;omega)) Q60 Q63 (qav Q4P) (qav Q4T) (qav Q4T) (qav Q4T) (qav Q4T) (qav Q4T) (qav Q4T) (qav Q4T) (qav Q4T) (qav Q4T) (qav Q4T)  (λh=>q0z _ _ _ _ (by rw[hsm];exact⟨ok.id.1,ok.id.2⟩) (by rw[hsm];exact ok.tick.boot) Q5O hnow h) 0 2 3 8 5 6 7 1 17 h₂ Q4h ((hh 2 Q50).trans rfl) ((hh 3 Q50).trans rfl) Q4s ((hh 5 Q50).trans rfl) Q4N ((hh 7 Q50).trans rfl) Q4A Q4I Q4T) λv ms hR=>?_
    obtain⟨L2,B2,hA2,hM2,rfl,rfl⟩:=hR;refine⟨by simp,?_⟩;repeat' (refine Ba ?_;first|refine Q2J ?_|refine Q3g ?_|fail)
    refine Ba ?_;refine Bl (α:=Nat×List Ml×List By) (m+1,L2,B2) [(0,0),(1,1),(2,2),(3,3),(4,4),(5,5),(6,6),(7,7),(8,8)] ⟨⟨hm,by show AirA W _ _ (tickZ F A (m+1)).2.1;rw[hS'];exact hA2,λe h=>hM2 e (hM' e h)⟩,by show F.n-(m+1)<F.n-m;omega⟩ ?_;repeat' (refine Ba ?_;first|exact Bd|refine Q2Q ?_|fail)
 .obtain rfl:m=F.n:=by omega
  refine Q0e ?_;refine qgo (ok:=q5b (q39 F L' (tickZ F A F.n))) (hB:=flH (q39 F L' (tickZ F A F.n))) β 0 [(0,0),(1,2),(2,3),(3,8),(4,5),(5,6),(6,7)] [1] (λl i hm' hl=>?_) (λi hi=>?_) hβ rfl ⟨_,rfl⟩ rfl rfl ?_ (λk hk l i hm'=>?_) (safeM Q4R) (λρ ρ' _=>rfl) (Nat.zero_lt_succ _) ?_
  .simp only[xf,Prod.mk.injEq,xA,or_false] at hm';have hl:i<2:=hl;obtain rfl:i=0:=by omega
   exact⟨_,rfl,qib F,qao⟩
  .have hi:i<2:=hi;rcases(by omega:i=0\/i=1) with rfl|rfl
   .exact .inl rfl
   .exact .inr Q3Z
  .intro l d hl
   match l,hl with
   | 0,hl=>
    obtain rfl:_=d:=by simpa using hl
    exact⟨0,_,rfl,rfl,rfl,nlr _,Q4W,.inl rfl,.inl Q5U⟩
   | 1,hl=>
    obtain rfl:_=d:=by simpa using hl
    exact⟨2,_,rfl,rfl,rfl,nlr _,Q52,.inl rfl,.inl (by show 0<15;decide)⟩
   | 2,hl=>
    obtain rfl:_=d:=by simpa using hl
    exact⟨3,_,rfl,rfl,rfl,nlr _,qbi,.inl rfl,.inl (by show 0<F.n*2;omega)⟩
   | 3,hl=>
    obtain rfl:_=d:=by simpa using hl
    exact⟨8,_,rfl,rfl,rfl,nlr _,qbj,.inl rfl,.inl Q5T⟩
   | 4,hl=>
    obtain rfl:_=d:=by simpa using hl
    exact⟨5,_,rfl,rfl,rfl,nlr _,(qby λ_ _=>rfl).re,.inr rfl,.inl Q5T⟩
   | 5,hl=>
    obtain rfl:_=d:=by simpa using hl
    exact⟨6,_,rfl,rfl,rfl,nlr _,pr_ren.re,.inl rfl,.inl (by have:=hβ.2;show 0<β.2;omega)⟩
   | 6,hl=>
    obtain rfl:_=d:=by simpa using hl
    exact⟨7,_,rfl,rfl,rfl,nlr _,nzj,.inr rfl,.inr qao⟩
  .obtain rfl:=xQ.1 hk;exact Q1h
  refine Bh (L',B') ⟨⟨hA',hM'⟩,?_⟩;refine Bb (.plain rfl) ?_;refine Bb ⟨Q3R,Q3R,xb⟩ ?_;refine Bb xb ?_;refine Bb Q48 ?_;exact Bd
open Go Go.RowKit Sx
theorem qqp{α B:Type}{Y Z:α->Ext}{q:Nat×Nat}{a:α}(ok:B->Prop)(hs:α->B->Hp)(c:Nat)(o:Bool)(m:Nat)(ps:B->Pz)(g0:∀a β,(hs a β)[c]?=some (some (@Chunk.mk (Y a) o m (ps β))))(gs:∀a a' β k,k≠c->(hs a β)[k]?=(hs a' β)[k]?)(hL:q8g Y Z q a):
  q8g (λa=>q47 ok (hs a)) Z q a:=λp S w h=>by
 obtain⟨hSp,β,hβ,ρ,T,h0,hf0,K⟩:=h
 have gs':∀a a' k d,k≠c->(hs a β)[k]?=some (some d)->(hs a' β)[k]?=some (some d):=λa a' k d hk h=>(gs a' a β k hk).trans h
 have fl:∀a a' k,Fil (hs a β) k->Fil (hs a' β) k:=λa a' k hf=>by
  by_cases e:k=c
  .subst e;exact⟨_,g0 a' β⟩
  .exact⟨_,gs' a a' k _ e hf.choose_spec⟩
 obtain⟨S0,T1,hT,hd,hp,hz,hq,hw⟩:=hL _ _ _ (K.inv c _ (g0 a β))
 have TcS:∀b,T c b->S b:=λb hb=>(K.foot c _ b (g0 a β) hb).1
 have n1:∀k d,(hs a β)[k]?=some (some d)->¬ T1 (ρ k).1:=λk d hk h1=>by
  by_cases e:k=c
  .subst e;exact hp h1
  .exact((K.sep c _ k d (g0 a β) hk (Ne.symm e)).2 _ ((hT _).2 (.inr h1))).1 rfl
 obtain⟨d00,hd00⟩:=hf0
 have hp0:¬ T1 p.1:=by have:=n1 0 d00 hd00;rw[h0] at this;exact this
 refine⟨λb=>S b/\¬ T1 b,T1,λb=>⟨λhb=>?_,λhb=>?_⟩,λb hb=>hb.2,hp0,hz,hq,λa2 T2 w2 h2 hd2 hp2 hz2 hq2=>?_⟩
 .by_cases h1:T1 b
  .exact .inr h1
  .exact .inl ⟨hb,h1⟩
 .rcases hb with hb|hb
  .exact hb.1
  .exact TcS b ((hT b).2 (.inr hb))
 have Tk:∀k d b,k≠c->(hs a β)[k]?=some (some d)->T k b->S b/\¬ T1 b:=λk d b hk hkd hb=>⟨(K.foot k d b hkd hb).1,λh1=>(K.sep k d c _ hkd (g0 a β) hk).2 b hb |>.2 ((hT b).2 (.inr h1))⟩
 have S0k:∀b,S0 b->S b/\¬ T1 b:=λb hb=>⟨TcS b ((hT b).2 (.inl hb)),hd b hb⟩
 have blk:∀k d,(hs a β)[k]?=some (some d)->S (ρ k).1/\¬ T1 (ρ k).1:=λk d hk=>⟨K.blk k d hk,n1 k d hk⟩
 have back:∀k d,(hs a2 β)[k]?=some (some d)->∃d0,(hs a β)[k]?=some (some d0)/\d.n=d0.n/\(∀j,d.f j=d0.f j)/\(k≠c->d=d0):=λk d hk=>by
  by_cases e:k=c
  .subst e;rw[g0] at hk;obtain rfl:=Option.some.inj (Option.some.inj hk);exact⟨_,g0 a β,rfl,λ_=>rfl,λh=>absurd rfl h⟩
  .exact⟨d,gs' a2 a k d e hk,rfl,λ_=>rfl,λ_=>rfl⟩
 have hpc:¬ T2 (ρ c).1:=λh=>hd2 _ (blk c _ (g0 a β)) h
 refine⟨.inl (by have:=blk 0 d00 hd00;rw[h0] at this;exact this),β,hβ,ρ,λk=>if k=c then λb=>S0 b\/T2 b else T k,h0,fl a a2 0 ⟨d00,hd00⟩,λk d hk=>?_,λk d hk j hj=>?_,λk d hk j hj=>?_,λk d hk=>?_,λk d b hk hb=>?_,λk d l e hk hl hne=>?_⟩
 .obtain⟨d0,hk0,_⟩:=back k d hk;exact .inl (blk k d0 hk0)
 .obtain⟨d0,hk0,hn,hf,_⟩:=back k d hk;obtain⟨x,hx,hxd⟩:=K.cell k d0 hk0 j Q4P;have e:=h2 _ (blk k d0 hk0);refine⟨x,?_,?_⟩
  .rw[<-hx];unfold World.cell?;simp only[e]
  .rw[hf j];exact λr hr=>hxd r λi hi=>hr i (fl a a2 i hi)
 .obtain⟨d0,hk0,hn,hf,_⟩:=back k d hk;have e:=h2 _ (blk k d0 hk0);rw[<-K.own k d0 hk0 j Q4P];unfold World.frozen?;simp only[e]
 .by_cases e:k=c
  .subst e;rw[g0] at hk;obtain rfl:=Option.some.inj (Option.some.inj hk);simp only[if_pos];exact hw a2 T2 w2 (λb hb=>h2 b (S0k b hb)) (λb hb=>hd2 b (S0k b hb)) hpc hz2 hq2
  .simp only[if_neg e];have hk0:=gs' a2 a k d e hk;exact d.x.keep (K.inv k d hk0) λb hb=>h2 b (Tk k d b e hk0 hb)
 .by_cases e:k=c
  .subst e;rw[g0] at hk;obtain rfl:=Option.some.inj (Option.some.inj hk);simp only[if_pos] at hb;rcases hb with hb|hb
   .exact⟨.inl (S0k b hb),(K.foot k _ b (g0 a β) ((hT b).2 (.inl hb))).2⟩
   .exact⟨.inr hb,.inr λe=>hpc (e▸hb)⟩
  .simp only[if_neg e] at hb;have hk0:=gs' a2 a k d e hk;exact⟨.inl (Tk k d b e hk0 hb),(K.foot k d b hk0 hb).2⟩
 .obtain⟨d0,hk0,_⟩:=back k d hk;obtain⟨e0,hl0,_⟩:=back l e hl;obtain⟨s1,s2⟩:=K.sep k d0 l e0 hk0 hl0 hne;refine⟨s1,λb hb=>?_⟩;by_cases ek:k=c
  .subst ek;simp only[if_pos] at hb;have el:l≠k:=Ne.symm hne;simp only[if_neg el];rcases hb with hb|hb
   .exact s2 b ((hT b).2 (.inl hb))
   .exact⟨λe=>hd2 _ (blk l e0 hl0) (e▸hb),λh=>hd2 b (Tk l e0 b el hl0 h) hb⟩
  .simp only[if_neg ek] at hb;obtain⟨a1,a2'⟩:=s2 b hb;refine⟨a1,λh=>?_⟩;by_cases el:l=c
   .subst el;simp only[if_pos] at h;rcases h with h|h
    .exact a2' ((hT b).2 (.inl h))
    .exact hd2 b (Tk k d0 b ek hk0 hb) h
   .simp only[if_neg el] at h;exact a2' h
theorem q04(F:FS)(m:Nat)(hm:m<F.n):q8g (λa=>q47 (q5b F) (flH {F with s:=upd F.s m a})) ndX (F.g m) (F.s m):=by
 refine qqp (Y:=λa=>q31 ndX F.n F.g (upd F.s m a)) (q5b F) (λa=>flH {F with s:=upd F.s m a}) 4 true F.n (λ_=>[(0,F.n,.agg ⟨segL F.n λj=>.bool (F.on j)⟩)]) (λa β=>rfl) (λa a' β k hk=>?_) (qem ndX F.g F.s hm (F.s m) rfl)
 match k,hk with
 | 0,_=>rfl
 | 1,_=>rfl
 | 2,_=>rfl
 | 3,_=>rfl
 | 4,hk=>exact absurd rfl hk
 | 5,_=>rfl
 | 6,_=>rfl
 | k+7,_=>rfl
theorem qyw(C:Nat->Int)(n cap iw ia io i0 ip m:Nat)(lost:Int)(hm:m<n)(f:Nat->Value)(h:Hp)(h0:h[i0]?=some (some (flC C n iw ia io (.slice (some ⟨ip,0,some 0⟩) n cap) lost)))(ha:∃c,h[ia]?=some (some c))(hw:∃c,h[iw]?=some (some c))(ho:∃c,h[io]?=some (some c))(hp:∃c,h[ip]?=some (some c))(hne:[i0,iw,ia,io,ip].Nodup):
  qae prog 92 [xd i0,xc (m:Int)] h (.bool true) [] [i0,iw,ia,io,ip]:=by
 obtain⟨ca,ha⟩:=ha
 obtain⟨cw,hw⟩:=hw
 obtain⟨co,ho⟩:=ho
 obtain⟨cp,hp⟩:=hp
 simp only[xz,xf,xA,or_false,not_or,xE,and_true,xv] at hne
 refine qau (G:=tys) [⟨i0,_,(@Chunk.mk Ext.none false 16 (flC C n 1 2 3 (.slice (some ⟨4,0,some 0⟩) n cap) lost).ps),(@Chunk.mk Ext.none false 0 [])⟩,⟨iw,cw,(@Chunk.mk Ext.none false 0 []),(@Chunk.mk Ext.none false 0 [])⟩,⟨ia,ca,(@Chunk.mk Ext.none false 0 []),(@Chunk.mk Ext.none false 0 [])⟩,⟨io,co,(@Chunk.mk Ext.none false 0 []),(@Chunk.mk Ext.none false 0 [])⟩,⟨ip,cp,(@Chunk.mk Ext.none false 0 []),(@Chunk.mk Ext.none false 0 [])⟩] [] [xd 0,xc (m:Int)] tysOK mixed func92 Q4R (call92) ⟨h0,hw,ha,ho,hp,xb⟩ ⟨⟨λh=>Q5j,nlr _,Q4W⟩,Q3U,Q3U,Q3U,Q3U,xb⟩ (by simp[Apart, *]) xb Q3Y ?_
 repeat' (refine Ba ?_;first|refine Q2J ?_|refine Q3j ?_|refine Bb xb ?_|exact Bd|refine Bb (qa4 (congrArg Value.bool (xg (show(m:Int)<(n:Int) by omega)).symm) rfl) ?_|fail)
theorem qgl{ss:List q3w}{h:Hp}{v:Value}{K:Value->Hp->Prop}(F:FS)(β:Nat×Nat)(hn:0<F.n)(hβ:q5b F β)(hss:ss.length=1)(hpc:∃s,ss[0]?=some s/\s.e.x≠Ext.none/\Selfish s.e.x)(hh:∀k,k<7->h[k]?=(flH F β)[k]?)
  (hv:∀ρ ρ',AgreeOn (Fil (qa5 (flP F) 0 [] h 0)) ρ ρ'->den ρ' v=den ρ v) (kk:K v (qa5 (flP F) 0 [] h 0)):N (q51 ss h v K):=by
 refine qgo (ok:=q5b F) (hB:=flH F) β 0 [(0,0),(1,1),(2,2),(3,3),(4,4),(5,5),(6,6)] [] (λl i hm' hl=>?_) (λi hi=>.inl Q4P) hβ rfl ⟨_,rfl⟩ rfl rfl ?_ (λk hk=>by cases hk) (λk hk=>by cases hk) hv (xe.1 ((hh 0 Q4T).trans rfl)).1 kk
 .obtain rfl:i=0:=by omega
  exact hpc
 .intro l d hl
  match l,hl with
  | 0,hl=>
   obtain rfl:_=d:=by simpa using hl
   exact⟨0,_,rfl,(hh 0 Q4T).trans rfl,rfl,nlr _,Q4W,.inl rfl,.inl Q5U⟩
  | 1,hl=>
   obtain rfl:_=d:=by simpa using hl
   exact⟨1,_,rfl,(hh 1 Q4T).trans rfl,rfl,nlr _,Q52,.inl rfl,.inl (by show 0<15;decide)⟩
  | 2,hl=>
   obtain rfl:_=d:=by simpa using hl
   exact⟨2,_,rfl,(hh 2 Q4T).trans rfl,rfl,nlr _,qbi,.inl rfl,.inl (by show 0<F.n*2;omega)⟩
  | 3,hl=>
   obtain rfl:_=d:=by simpa using hl
   exact⟨3,_,rfl,(hh 3 Q4T).trans rfl,rfl,nlr _,qbj,.inl rfl,.inl hn⟩
  | 4,hl=>
   obtain rfl:_=d:=by simpa using hl
   exact⟨4,_,rfl,(hh 4 Q4T).trans rfl,rfl,nlr _,(qby λ_ _=>rfl).re,.inr rfl,.inl hn⟩
  | 5,hl=>
   obtain rfl:_=d:=by simpa using hl
   exact⟨5,_,rfl,(hh 5 Q4T).trans rfl,rfl,nlr _,pr_ren.re,.inl rfl,.inl (by have:=hβ.2;show 0<β.2;omega)⟩
  | 6,hl=>
   obtain rfl:_=d:=by simpa using hl
   exact⟨6,_,rfl,(hh 6 Q4T).trans rfl,rfl,nlr _,nzj,.inr rfl,.inr qao⟩
  | l+7,hl=>simp at hl
variable{p:Nat->Prop}
theorem jdg(h0:p 0)(h1:p 1)(h2:p 2)(h3:p 3)(h4:p 4)(h5:p 5)(h6:p 6):∀k,k<7->p k:=λk hk=>by
 match k,hk with
 | 0,_=>exact h0
 | 1,_=>exact h1
 | 2,_=>exact h2
 | 3,_=>exact h3
 | 4,_=>exact h4
 | 5,_=>exact h5
 | 6,_=>exact h6
theorem qt1(F:FS)(m:Nat)(hm:m<F.n)(i:Nat)(h:Hp)(hi:h[i]?=some (some (flP F))):
  CallAll prog 63 [xd i,xc (m:Int)] h λv ms=>v=q3z (F.g m)/\ms=[(i,flP F)]:=by
 have key:=qaq (G:=tys) (h:=h) (vs:=[xd i,.int .i64 (m:Int)]) (q5b F) (flH F) (α:=Unit) (λκ=>True) (λκ=>q3z (F.g m)) [⟨i,flP F,flP F,flP F⟩] (λκ=>[flP F]) (λκ=>[]) [xd 0,.int .i64 (m:Int)] tysOK mixed func63 Q4R (call63) ⟨hi,xb⟩ ⟨Q3P,xb⟩ Q4r Q55 Q40 (λκ _=>trivial) Q3Y qa3 ?_
 .exact Q0N
 intro β hβ
 repeat' (refine Ba ?_;first|refine Q2J ?_|refine Q2W ?_|refine Bc (qyw F.C F.n β.2 1 6 4 0 5 m F.lost hm (prF F.g F.n) _ Q4R ⟨_,by rfl⟩ ⟨_,by rfl⟩ ⟨_,by rfl⟩ ⟨_,by rfl⟩ Q4T) ?_|refine Q3I ?_|fail)
 refine Ba ?_
 refine qgl F β Q4P hβ rfl ⟨_,rfl,qib F,qao⟩ Q4k (λρ ρ' _=>rfl) ?_
 refine Bh () ⟨xb,?_⟩
 refine Bb (.plain rfl) ?_
 refine Bb ⟨Q3R,xb⟩ ?_
 refine Bb xb ?_
 refine Bb Q42 ?_
 exact Bd
theorem qt2(F:FS)(m:Nat)(hm:m<F.n)(hE:(F.s m).T.E=[])(i k:Nat)(h:Hp)(hi:h[i]?=some (some (flP F)))(hk:h[k]?=some none):
  CallAll prog 64 [q3z (F.g m)] h λv ms=>v=rpV (F.s m).fv (F.s m).fx (F.s m).fy (F.s m).fa (F.s m).fb (F.s m).fd (.slice none 0 0)/\ms=[(i,flP F)]:=by
 have hkl:=(xe.1 hk).1
 have hF:({F with s:=upd F.s m (F.s m)}:FS)=F:=by rw[qct]
 have key:=qw0 (F.s m) hE k ((h.set i (some (@Chunk.mk (wandX (λa=>q47 (q5b F) (flH {F with s:=upd F.s m a})) ndX (F.g m)) true 0 []))).set k (some (@Chunk.mk (ndX (F.s m)) true 0 []))) (xr Q5z)
 have hi':h[i]?=some (some (@Chunk.mk (q47 (q5b F) (flH {F with s:=upd F.s m (F.s m)})) true 0 [])):=by rw[hi,hF]
 refine qel (vs':=[xd k]) (Y:=λa=>q47 (q5b F) (flH {F with s:=upd F.s m a})) (Z:=ndX) (q:=F.g m) (a:=F.s m) i k hi' hk (q04 F m hm) qew ⟨.ptr,xb⟩ (qce key) λv ms hR=>?_
 obtain⟨rfl,rfl⟩:=hR
 refine⟨F.s m,[],?_,(λm hm=>by cases hm),(λr r' _=>by simp[den,den2,den1,den0,q4a]),rfl,?_⟩
 .show List.set _ _ _=_;rw[yk];rfl
 .rw[hF]
theorem q3b(F:FS)(hn:0<F.n)(i:Nat)(h:Hp)(hi:h[i]?=some (some (flP F))):
  CallAll prog 27 [xd i] h λv ms=>v=xc (F.L.length:Nat)/\ms=[(i,flP F)]:=by
 have key:=qaq (G:=tys) (h:=h) (vs:=[xd i]) (q5b F) (flH F) (α:=Unit) (λκ=>True) (λκ=>.int .i64 (F.L.length:Nat)) [⟨i,flP F,flP F,flP F⟩] (λκ=>[flP F]) (λκ=>[]) [xd 0] tysOK mixed func27 Q4R (call27) ⟨hi,xb⟩ ⟨Q3P,xb⟩ Q4r Q55 Q40 (λκ _=>trivial) ⟨.ptr rfl,xb⟩ qa3 ?_
 .exact Q0N
 intro β hβ
 repeat' (refine Ba ?_;first|refine Q2J ?_|refine Bc (jb3 F.L 6 _ Q4R) ?_|fail)
 refine Ba ?_
 refine qgl F β Q4P hβ rfl ⟨_,rfl,qib F,qao⟩ Q4k (λρ ρ' _=>rfl) ?_
 refine Bh () ⟨xb,?_⟩
 refine Bb (.plain rfl) ?_
 refine Bb ⟨Q3R,xb⟩ ?_
 refine Bb xb ?_
 refine Bb Q42 ?_
 exact Bd
open Go Go.RowKit Sx
theorem g1(h:p 0):∀j,j<1->p j:=by simp_all
theorem qw6(m:Int)(x y a b d:Int)(px py r:Int)(i:Nat)(h:Hp)(hi:h[i]?=some (some (fiC m false x y a b d)))  : qae prog 129 [xd i,.agg #[xc px,xc py],xc r] h (xc 10) [(i,fiC m false x y a b d)] []:=by
 refine qau (G:=tys) [⟨i,_,fiC m false x y a b d,fiC m false x y a b d⟩] [] [xd 0,.agg #[xc px,xc py],xc r] tysOK mixed func129 Q4R (call129) ⟨hi,xb⟩ Q4e Q55 xb Q4a ?_;exact Q0l
open Go Go.RowKit Sx
theorem qw7(s:NSt)(px py:Int)(v:Bool)(x y a b d gg:Int)(hF:∀i h,h[i]?=some (some (fiC s.fm s.fv s.fx s.fy s.fa s.fb s.fd))->qae prog 129 [xd i,.agg #[xc px,xc py],xc (s.C 3)] h (xc gg) [(i,fiC s.fm v x y a b d)] [])(i:Nat)(h:Hp)(hi:h[i]?=some (some (ndP s))):
  qae prog 99 [xd i,.agg #[xc px,xc py]] h (.tuple #[]) [(i,ndP {s with fv:=v,fx:=x,fy:=y,fa:=a,fb:=b,fd:=d})] []:=by
 refine qay (G:=tys) (λ_:Rz=>True) (ndH s) [⟨i,ndP s,ndP s,ndP {s with fv:=v,fx:=x,fy:=y,fa:=a,fb:=b,fd:=d}⟩] [] [xd 0,.agg #[xc px,xc py]] tysOK mixed func99 Q4R (call99) ⟨hi,xb⟩ ⟨Q3P,xb⟩ Q55 Q40 xb Q3Y qa3 ?_
 intro g _
 repeat' (refine Ba ?_;first|refine Q2J ?_|refine Bc (hF 1 _ Q4R) ?_|fail)
 refine Ba ?_
 refine qe7 {s with fv:=v,fx:=x,fy:=y,fa:=a,fb:=b,fd:=d} g 0 1 2 3 4 [] qf0 (λi hi=>.inl Q59) Q4R rfl rfl rfl Q4b Q4R rfl rfl re7 Q4R Q4R rfl rfl re2 Q4R rfl rfl re2 Q4R (λk hk=>by cases hk) (λk hk=>by cases hk) (qfr rfl) ?_
 refine Bb (.plain rfl) ?_
 refine Bb ⟨Q3R,xb⟩ ?_
 refine Bb xb ?_
 refine Bb Q42 ?_
 exact Bd
abbrev q4j(k nd n px py qx qy ex ey ea eb ed x b:Int)(u:Value):Value:=.agg ⟨[xc k,xc nd,xc n,xc px,xc py,xc qx,xc qy,xc ex,xc ey,xc ea,xc eb,xc ed,xc x,.int .u8 b,u]⟩
theorem qt3(W:World)(B:List By)(F:FS)(hn:1<=F.n/\F.n<=64)(h4:0<=F.C 4/\F.C 4<=100)(h5:0<=F.C 5/\F.C 5<=1000)(ht:0<=F.tm/\F.tm<750000)(hl:0<=F.lost/\F.lost<=1000000)(A:List Am)(hA:AirA W B F.L A)(hN:∀m,m<F.n->NdOK (F.s m))(i j:Nat)(hij:i≠j)(h:Hp)(hi:h[i]?=some (some (flP F)))(hj:h[j]?=some (some (q3v W B))):
  CallAll prog 71 [xd i,q4j 2 0 0 0 0 0 0 0 0 0 0 0 0 0 (.slice none 0 0)] h λv ms=>∃L' B',AirA W B' L' (tickZ F A F.n).2.1/\(∀e,e∈B->e∈B')/\v=xc 0/\ms=[(i,flP (q39 F L' (tickZ F A F.n))),(j,q3v W B')]:=by
 have key:=qaq (G:=tys) (h:=h) (vs:=[xd i,q4j 2 0 0 0 0 0 0 0 0 0 0 0 0 0 (.slice none 0 0)]) (λ_:Unit=>True) (λ_=>_) (α:=List Ml×List By) (λκ=>AirA W κ.2 κ.1 (tickZ F A F.n).2.1/\∀e,e∈B->e∈κ.2) (λκ=>.int .i64 0) [⟨i,flP F,flP F,flP F⟩,⟨j,q3v W B,q3v W B,q3v W B⟩] (λκ=>[flP (q39 F κ.1 (tickZ F A F.n)),q3v W κ.2]) (λκ=>[]) [xd 0,q4j 2 0 0 0 0 0 0 0 0 0 0 0 0 0 (.slice none 0 0)] tysOK mixed func71 Q4R (call71) ⟨hi,hj,xb⟩ ⟨Q3P,Q3P,xb⟩ (λκ _=>⟨Q3P,Q3P,xb⟩) (by simp[Apart,hij]) Q4B (λκ _=>trivial) Q3Y Opens.same ?_
 .exact Q0J
 rintro⟨⟩ -
 repeat' (refine Ba ?_;first|refine Q2J ?_|refine Q2R ?_|fail)
 refine Ba ?_
 refine Bg (qw5 W B F hn h4 h5 ht hl A hA hN 0 1 Q4T _ Q4R Q4R) λv ms hR=>?_
 obtain⟨L',B',hA',hM',rfl,rfl⟩:=hR
 repeat' (refine Ba ?_;first|refine Q2J ?_|refine Q2R ?_|fail)
 refine Ba ?_
 refine Bj ?_
 refine Bh (L',B') ⟨⟨hA',hM'⟩,?_⟩
 refine Bb (.plain rfl) ?_
 refine Bb ⟨Q3R,Q3R,xb⟩ ?_
 refine Bb xb ?_
 refine Bb Q48 ?_
 exact Bd
open Go Go.RowKit Sx
theorem qt4(n m:Nat)(g:Rz)(s:Nat->NSt)(hm:m<n)(px py:Int)(s':NSt)(hM:∀(i:Nat)(h:Hp),h[i]?=some (some (ndP (s m)))->qae prog 99 [xd i,.agg #[xc px,xc py]] h (.tuple #[]) [(i,ndP s')] [])(i k:Nat)(h:Hp)(hi:h[i]?=some (some (@Chunk.mk (q31 ndX n g s) true c ps)))(hk:h[k]?=some none):
  CallAll prog 99 [q3z (g m),.agg #[xc px,xc py]] h λv ms=>v=.tuple #[]/\ms=[(i,@Chunk.mk (q31 ndX n g (upd s m s')) true c ps)]:=by
 have hkl:=(xe.1 hk).1
 have key:=hM k ((h.set i (some (@Chunk.mk (wandX (λa=>q31 ndX n g (upd s m a)) ndX (g m)) true c ps))).set k (some (@Chunk.mk (ndX (s m)) true 0 []))) (xr Q5z)
 rw[<-qct s m] at hi
 refine qel (vs':=[xd k,.agg #[.int .i64 px,.int .i64 py]]) (Y:=λa=>q31 ndX n g (upd s m a)) (Z:=ndX) (q:=g m) (a:=s m) i k hi hk (qem ndX g s hm (s m) rfl) qew ⟨.ptr,.same _,xb⟩ (qce key) λv ms hR=>?_
 obtain⟨rfl,rfl⟩:=hR
 refine⟨s',[],?_,(λm hm=>by cases hm),λr r' _=>by simp[den,den2,den1,den0,q4a],rfl,rfl⟩
 show List.set _ _ _=_
 rw[yk]
 rfl
open Go Go.RowKit Sx
section
variable{o:Oper}{st:St}
end
structure Sp where
 kd:Int
 nd:Int
 n:Int
 px:Int
 py:Int
 qx:Int
 qy:Int
 ex:Int
 ey:Int
 ea:Int
 eb:Int
 ed:Int
 x:Int
 b:Int
 u:Option Sl
abbrev Sp.cs(c:Sp):List Value:=[xc c.kd,xc c.nd,xc c.n,xc c.px,xc c.py,xc c.qx,xc c.qy,xc c.ex,xc c.ey,xc c.ea,xc c.eb,xc c.ed,xc c.x,.int .u8 c.b,uV c.u]
abbrev Sp.rs(c:Sp):List Value:=[xc c.kd,xc c.nd,xc c.n,xc c.px,xc c.py,xc c.qx,xc c.qy,xc c.ex,xc c.ey,xc c.ea,xc c.eb,xc c.ed,xc c.x,.int .u8 c.b,uR c.u]
abbrev Sp.v(c:Sp):Value:=.agg ⟨c.cs⟩
theorem Sp.den(c:Sp)(ρ:Rz):den ρ (.agg ⟨c.cs⟩)=.agg ⟨c.rs⟩:=by
 show Value.agg ((⟨c.cs⟩:Array Value).map (den1 ρ))=_;have e:=qsb c.u ρ;simp only[yr,xk,xZ];rw[e];rfl
theorem Sp.re(c:Sp):Re2 ix c.v c.v:=.agg ⟨.plain rfl,.plain rfl,.plain rfl,.plain rfl,.plain rfl,.plain rfl,.plain rfl,.plain rfl,.plain rfl,.plain rfl,.plain rfl,.plain rfl,.plain rfl,.plain rfl,qsc c.u,xb⟩
theorem qmr{o:Oper}{st:St}{t:TypeId}{x:Operand}{b f i sz:Nat}{W:World}{cs ds:List Value}(ho:o.op=.load t x)(hx:EvTo x st (.pointer (some ⟨b,f,none⟩)))(hi:st.h[i]?=some (some (q3v W F)))
  (ht:q3y tys t λti d=>qco d=true/\ti.size=sz) (hd:∀ρ,den ρ (.agg ⟨cs⟩)=.agg ⟨ds⟩) (hl:ds.length=sz) (hk:∀j v,ds[j]?=some v->W.cell? ⟨b,f+j,none⟩=some v):OKs prog o st (.agg ⟨cs⟩) [] [i]:=λst₂ hs hh _=>
 qat λX ρ a w R=>by
  have hi2:st₂.h[i]?=some (some (q3v W F)):=(hh i Q50).trans hi;have hx':=qnh (hs x Q4X _ hx) rfl R;obtain⟨ti,d,h1,h2,hd',rfl⟩:=qak tysOK ht;obtain⟨S,E⟩:=R.heap.ext;have hcells:∀j v,ds[j]?=some v->w.cell? ((⟨b,f,none⟩:Addr).add j)=some v:=λj v hv=>by
   rw[qb7];exact qse (hk j v hv) _ _ _ (E.inv i _ hi2)
  refine⟨.agg ⟨ds⟩,?_,λr _=>hd r⟩;simp only[execOp,ho,hx',Instr.loadAt,Instr.sureAddr,loadVar,Sem.run_bind,Sem.run_pure,Result.andThen_ok,qcf h2,hd',if_true,Sx.run_sizeOf h1];rw[<-hl,run_loadCells_list _ _ _ hcells];rfl
open Go Go.ChangeShapes Go.WideShapes Go.ChangeAt Go.RowKit Sx
open Go Go.RowKit Sx
def jb5(c:Nat->Int)(P:Nat->Int)(M:Nat->Bool)(p:Nat)(px py qx qy:Int):Prop:=
 stp px py=true/\px*px+py*py<=c 2*c 2/\stp (qx-px) (qy-py)=true/\(qx-px)*(qx-px)+(qy-py)*(qy-py)<=c 3*c 3/\M p=false/\wiB (P (p*2)+px) (P (p*2+1)+py) 4194304
theorem kY{k:Int}(h:a=k):(a==k)=true:=by subst h;exact beq_self_eq_true a
theorem kN{k:Int}(h:a≠k):(a==k)=false:=beq_eq_false_iff_ne.2 h
theorem qqq(F:FS)(hn:0<F.n)(c:Sp)(hk:c.kd=1)(m:Nat)(hm:m<F.n)(hnd:c.nd=(m:Int))(e:Int)(he:e≠0)(hW:∀(cap:Nat)(tm st:Int)(o1:Bool)(h:Hp),h[1]?=some (some (wcc o1 F.C F.n cap 2 3 tm st))->h[2]?=some (some (ptP true F.n F.P))->h[3]?=some (some (mvP true F.n F.M))->qae prog 98 [xd 1,xc (m:Int),.agg #[xc c.px,xc c.py],.agg #[xc c.qx,xc c.qy]] h (xc e) [] [1,2,3])(i:Nat)(h:Hp)(hi:h[i]?=some (some (flP F))):
  CallAll prog 71 [xd i,c.v] h λv ms=>v=xc e/\ms=[(i,flP F)]:=by
 have key:=qaq (G:=tys) (h:=h) (vs:=[xd i,c.v]) (q5b F) (flH F) (α:=Unit) (λκ=>True) (λκ=>.int .i64 e) [⟨i,flP F,flP F,flP F⟩] (λκ=>[flP F]) (λκ=>[]) [xd 0,c.v] tysOK mixed func71 Q4R (call71) ⟨hi,xb⟩ ⟨Q3P,xb⟩ Q4r Q55 Q40 (λκ _=>trivial) ⟨.ptr rfl,c.re,xb⟩ qa3 ?_
 .exact Q0N
 intro β hβ
 repeat' (refine Ba ?_;first|refine Q2J ?_|refine Be (kN Q4P) ?_|refine Q3M ?_|(rw[hnd];refine Bc Q4d ?_)|fail)
 refine Ba ?_
 refine qgl F β Q5T hβ rfl ⟨_,rfl,qib F,qao⟩ Q4k (λρ ρ' _=>rfl) ?_
 refine Bh () ⟨xb,?_⟩
 refine Bb (.plain rfl) ?_
 refine Bb ⟨Q3R,xb⟩ ?_
 refine Bb xb ?_
 refine Bb Q42 ?_
 exact Bd
theorem qqr(F:FS)(hn:0<F.n)(c:Sp)(hk:c.kd=1)(m:Nat)(hm:m<F.n)(hnd:c.nd=(m:Int))(eo:F.on m=true)(hW:∀(cap:Nat)(tm st:Int)(o1:Bool)(h:Hp),h[1]?=some (some (wcc o1 F.C F.n cap 2 3 tm st))->h[2]?=some (some (ptP true F.n F.P))->h[3]?=some (some (mvP true F.n F.M))->qae prog 98 [xd 1,xc (m:Int),.agg #[xc c.px,xc c.py],.agg #[xc c.qx,xc c.qy]] h (xc 0) [(2,ptP true F.n (q4t F.P m (F.P (m*2)+c.px) (F.P (m*2+1)+c.py))),(3,mvP true F.n (q7d F.M m))] [1])(s':NSt)(hM:∀(i:Nat)(h:Hp),h[i]?=some (some (ndP (F.s m)))->qae prog 99 [xd i,.agg #[xc c.qx,xc c.qy]] h (.tuple #[]) [(i,ndP s')] [])(i:Nat)(h:Hp)(hi:h[i]?=some (some (flP F))):
  CallAll prog 71 [xd i,c.v] h λv ms=>v=xc 0/\ms=[(i,flP {F with P:=q4t F.P m (F.P (m*2)+c.px) (F.P (m*2+1)+c.py),M:=q7d F.M m,s:=upd F.s m s'})]:=by
 have key:=qaq (G:=tys) (h:=h) (vs:=[xd i,c.v]) (q5b F) (flH F) (α:=Unit) (λκ=>True) (λκ=>.int .i64 0) [⟨i,flP F,flP F,flP F⟩] (λκ=>[flP {F with P:=q4t F.P m (F.P (m*2)+c.px) (F.P (m*2+1)+c.py),M:=q7d F.M m,s:=upd F.s m s'}]) (λκ=>[]) [xd 0,c.v] tysOK mixed func71 Q4R (call71) ⟨hi,xb⟩ ⟨Q3P,xb⟩ Q4r Q55 Q40 (λκ _=>trivial) ⟨.ptr rfl,c.re,xb⟩ qa3 ?_
 .exact Q0N
 intro β hβ
 repeat' (refine Ba ?_;first|refine Q2L ?_|refine Q2N ?_|refine Q2T ?_|refine Q3M ?_|(rw[hnd];refine Bc Q4d ?_)|refine Q3h ?_|fail)
 refine Ba ?_
 refine N.alt ?_
 repeat' (refine Ba ?_;first|refine Q2L ?_|refine Q2N ?_|refine Q2T ?_|refine Q3M ?_|(rw[hnd];refine Bc Q4d ?_)|refine Q3h ?_|fail)
 refine Ba ?_
 refine N.altP ?_
 refine Ba ?_
 refine Bp [0,1,2,3,4,5,6,7,8,9] [(10,[])] Q4U ?_
 repeat' (refine Ba ?_;first|refine Q2L ?_|refine Q2N ?_|refine Q2T ?_|refine Q3M ?_|(rw[hnd];refine Bc Q4d ?_)|refine Q3h ?_|fail)
 refine Ba ?_
 refine qbp [4,8] _ Q53 (λh₂ hh=>qt4 F.n m F.g F.s hm c.qx c.qy s' hM 4 8 h₂ ((hh 4 Q50).trans rfl) Q4s) λv ms hR=>?_
 obtain⟨rfl,rfl⟩:=hR
 refine⟨by simp,?_⟩
 repeat' (refine Ba ?_;first|refine Q2L ?_|refine Q2N ?_|refine Q2T ?_|refine Q3M ?_|(rw[hnd];refine Bc Q4d ?_)|refine Q3h ?_|fail)
 refine Ba ?_
 refine qgl {F with P:=q4t F.P m (F.P (m*2)+c.px) (F.P (m*2+1)+c.py),M:=q7d F.M m,s:=upd F.s m s'} β Q5T hβ rfl ⟨_,rfl,qib F,qao⟩ Q4k (λρ ρ' _=>rfl) ?_
 refine Bh () ⟨xb,?_⟩
 refine Bb (.plain rfl) ?_
 refine Bb ⟨Q3R,xb⟩ ?_
 refine Bb xb ?_
 refine Bb Q42 ?_
 exact Bd
open Go Go.RowKit Sx
theorem AirA.setM{W:World}(h:AirA W F L A):∀{x:Nat}{m m':Ml},L[x]?=some m->m'.u=m.u->∃A',AirA W F (L.set x m') A':=by
 induction h with
 | nil=>intro x m m' hx;simp at hx
 | @cons m0 a L A hm hA ih=>
  intro x m m' hx hu;cases x with
  | zero=>
   obtain rfl:m0=m:=by simpa using hx
   exact⟨⟨m'.to_,a.bs,m'.at_,m'.tr,m'.be⟩::A,.cons ⟨rfl,rfl,rfl,rfl,by show Own F m'.u a.bs;rw[hu];exact hm.own,hm.len⟩ hA⟩
  | succ x=>
   obtain⟨A',hA'⟩:=ih (by simpa using hx) hu;exact⟨a::A',.cons hm hA'⟩
def AE(W:World)(B:List By)(L:List Ml):Prop:=(∃A,AirA W B L A)/\L.length<=512
theorem AE.more{W:World}{B':List By}(h:AE W B L)(hs:∀e,e∈B->e∈B'):AE W B' L:=by
 obtain⟨⟨A,hA⟩,hl⟩:=h;exact⟨⟨A,hA.mono hs⟩,hl⟩
theorem AE.erase{W:World}(h:AE W B L)(x:Nat):AE W B (L.eraseIdx x):=by
 obtain⟨⟨A,hA⟩,hl⟩:=h;exact⟨⟨_,hA.erase x⟩,xH (by rw[List.length_eraseIdx];split<;>omega) hl⟩
theorem AE.snoc{W:World}(h:AE W B L)(hl:L.length<512)(ho:Own B m.u bs)(hb:bs.length<=1000):AE W B (L++[m]):=by
 obtain⟨⟨A,hA⟩,_⟩:=h;exact⟨⟨_,hA.snoc (a:=⟨m.to_,bs,m.at_,m.tr,m.be⟩) ⟨rfl,rfl,rfl,rfl,ho,hb⟩⟩,by rw[xP];exact hl⟩
theorem AE.get{W:World}(h:AE W B L){x:Nat}(hx:x<L.length):∃m bs,L[x]?=some m/\Own B m.u bs/\bs.length<=1000:=by
 obtain⟨⟨A,hA⟩,_⟩:=h;have e:=hA.len;obtain⟨m,h1,h2⟩:=hA.get (a:=A[x]) (xn Q4P);exact⟨m,_,h1,h2.own,h2.len⟩
open Go Go.RowKit Sx
open Go Go.RowKit Sx
structure Cr where
 P:Nat->Int
 M:Nat->Bool
 tm:Int
 s:Nat->NSt
 on:Nat->Bool
structure NdK(C:Nat->Int)(k m:Nat)(on:Bool)(s:NSt):Prop where
 E:s.T.E=[]
 te:0<=s.te/\s.te<=1000000
 bn:2<=s.bn/\s.bn<1000
 bl:on=true->0<s.bl/\s.bl<1000
 seq:0<=s.seq/\s.seq<=k
 boot:0<=s.boot/\s.boot<=k
 id:s.id=m
 may:s.fv=true->q4e s.fx s.fy s.fa s.fb s.fd
 C:s.C=C
structure CrOK(C:Nat->Int)(n k:Nat)(c:Cr):Prop where
 nd:∀m,m<n->NdK C k m (c.on m) (c.s m)
 P:∀m,m<n->wiB (c.P (m*2)) (c.P (m*2+1)) 4194304
 tm:0<=c.tm/\c.tm<=k
structure FlE(W:World)(B:List By)(F:FS):Prop where
 st:0<=F.st/\F.st<=16777215
 lost:0<=F.lost/\F.lost<=1000000
 air:AE W B F.L
variable{C:Nat->Int}
theorem NdK.more{k k' m:Nat}{on:Bool}{s:NSt}(h:NdK C k m on s)(hk:k<=k'):NdK C k' m on s:=
 ⟨h.E,h.te,h.bn,h.bl,by have:=h.seq;omega,by have:=h.boot;omega,h.id,h.may,h.C⟩
theorem CrOK.more{n k k':Nat}{c:Cr}(h:CrOK C n k c)(hk:k<=k'):CrOK C n k' c:=
 ⟨λm hm=>(h.nd m hm).more hk,h.P,by have:=h.tm;omega⟩
theorem NdK.tick{k m:Nat}{on:Bool}{s:NSt}(h:NdK C k m on s)(hk:k<60000)(hm:m<64):NdOK s:=
 ⟨⟨h.E,h.te,by have:=h.bn;omega,by have:=h.seq;omega,by have:=h.boot;omega⟩,by rw[h.id];omega,h.may⟩
def tickC(on:Nat->Bool)(now:Nat->Int)(s:Nat->NSt):Nat->Nat->NSt
 | 0=>s
 | j+1=>if on j=true then upd (tickC on now s j) j (tickS (tickC on now s j j) (now j)) else tickC on now s j
theorem qic(C P:Nat->Int)(n:Nat)(on:Nat->Bool)(now:Nat->Int)(g:Int)(z:(Nat->NSt)×(List Am×Int)):∀j,(tickA C P n on now g z j).1=tickC on now z.1 j
 | 0=>rfl
 | j+1=>by
  have ih:=qic C P n on now g z j;unfold tickA tickC;split
  .show upd _ _ _=_;rw[ih]
  .exact ih
theorem qg6(on:Nat->Bool)(now:Nat->Int)(s:Nat->NSt)(k:Nat):∀j,j<=k->tickC on now s j k=s k
 | 0,_=>rfl
 | j+1,h=>by
  unfold tickC;split
  .rw[qed _ _ Q4P];exact qg6 on now s k j Q4P
  .exact qg6 on now s k j Q4P
theorem qkn(on:Nat->Bool)(now:Nat->Int)(s:Nat->NSt)(k:Nat):∀j,k<j->tickC on now s j k=if on k=true then tickS (s k) (now k) else s k
 | 0,h=>absurd h (xS _)
 | j+1,h=>by
  by_cases e:k=j
  .subst e;unfold tickC;by_cases ho:on k=true
   .rw[if_pos ho,if_pos ho,qfq,qg6 on now s k k (nlr _)]
   .rw[if_neg ho,if_neg ho,qg6 on now s k k (nlr _)]
  .have ih:=qkn on now s k j Q4P;unfold tickC;split
   .rw[qed _ _ e];exact ih
   .exact ih
theorem NdK.tickS{C:Nat->Int}{k m:Nat}{s:NSt}(h:NdK C k m true s)(hk:k<60000)(now:Int)(hnow:0<=now/\now<=1000000):NdK C (k+1) m true (tickS s now):=by
 obtain⟨a1,a2,a3,a4,a5,a6,a7,a8,a9⟩:=h;unfold Go.Proofs.YtggfpcfkbilkmaaGreatDoor.tickS;split
 .exact⟨a1,a2,a3,λ_=>by show 0<s.bn/\s.bn<1000;omega,by show 0<=s.seq/\s.seq<=((k+1:Nat):Int);omega,by show 0<=s.boot/\s.boot<=((k+1:Nat):Int);omega,a7,a8,a9⟩
 .exact⟨a1,a2,a3,λ_=>by show 0<s.bn-1/\s.bn-1<1000;omega,by show 0<=s.seq+1/\s.seq+1<=((k+1:Nat):Int);omega,by show 0<=s.boot/\s.boot<=((k+1:Nat):Int);omega,a7,a8,a9⟩
def Sp.z(c:Sp):Prop:=c.ex=0/\c.ey=0/\c.ea=0/\c.eb=0/\c.ed=0
structure StepF(n:Nat)(c c':Cr)(sp:Sp)(e:Int):Prop where
 boot:sp.kd=8->e=0->0<=sp.nd/\sp.nd<(n:Int)
 know:∀m,m<n->(c'.s m).fv=true->(sp.kd=8/\e=0/\sp.nd=(m:Int)/\¬ sp.z)\/(¬ (sp.kd=8/\e=0/\sp.nd=(m:Int))/\(c.s m).fv=true)
theorem StepF.same(n:Nat)(c:Cr)(sp:Sp)(e:Int)(he:e≠0\/sp.kd≠8):StepF n c c sp e:=
 ⟨λh1 h2=>by omega,λm _ hv=>.inr ⟨λh=>by omega,hv⟩⟩
theorem qt5(C:Nat->Int)(hC:q7a C)(h9:2<=C 9)(k m:Nat)(boot:Int)(hb:0<=boot/\boot<=k)(v:Bool)(x y a b d:Int)(hv:v=true->q4e x y a b d):NdK C k m true (q4i C (m:Int) boot v x y a b d):=by
 have q8:=hC.h8;have q9:=hC.h9;refine⟨rfl,?_,?_,λ_=>?_,?_,hb,rfl,hv,rfl⟩
 .show 0<=max 1 (min (C 8) 1000000)/\max 1 (min (C 8) 1000000)<=1000000;omega
 .show 2<=max 0 (min (C 9) 1000)/\max 0 (min (C 9) 1000)<1000;omega
 .show 0<max 0 (min (C 9) 1000)/\max 0 (min (C 9) 1000)<1000;omega
 .show 0<=(0:Int)/\(0:Int)<=k;omega
open Go Go.RowKit Sx
variable{P:Program}
theorem qde{g:FuncId}{vs:List Value}{h:Hp}{v:Value}{ms:Mz}{rh:List Nat}(hc:∀h₂:Hp,(∀i∈rh,h₂[i]?=h[i]?)->(∀m∈ms,h₂[m.1]?=h[m.1]?)->CallAll P g vs h₂ λv' ms'=>v'=v/\ms'=ms):qae P g vs h v ms rh:=λh₂ h1 h2 X ρ w xs H hx=>by
 rcases hc h₂ h1 h2 X ρ w xs H hx with ⟨x,w',hr,v',ms',ρ',⟨rfl,rfl⟩,h3⟩|⟨hr,hcl⟩
 .exact .inl ⟨x,w',hr,ρ',h3⟩
 .refine .inr ⟨hr,hcl.mono ?_⟩;rintro e w' ⟨x,he,v',ms',ρ',⟨rfl,rfl⟩,h3⟩;exact⟨x,he,ρ',h3⟩
theorem q05(F:FS)(hn:0<F.n)(i:Nat)(h:Hp)(hi:h[i]?=some (some (flP F))):qae prog 27 [xd i] h (xc (F.L.length:Nat)) [(i,flP F)] []:=
 qde λh₂ _ h2=>q3b F hn i h₂ ((h2 _ (xQ.2 rfl)).trans hi)
theorem qw8(F:FS)(m:Nat)(hm:m<F.n)(i:Nat)(h:Hp)(hi:h[i]?=some (some (flP F))):qae prog 63 [xd i,xc (m:Int)] h (q3z (F.g m)) [(i,flP F)] []:=
 qde λh₂ _ h2=>qt1 F m hm i h₂ ((h2 _ (xQ.2 rfl)).trans hi)
theorem qc2(F:FS)(m:Nat)(hm:m<F.n)(hE:(F.s m).T.E=[])(i k:Nat)(h:Hp)(hi:h[i]?=some (some (flP F)))(hk:h[k]?=some none):qae prog 64 [q3z (F.g m)] h (rpV (F.s m).fv (F.s m).fx (F.s m).fy (F.s m).fa (F.s m).fb (F.s m).fd (.slice none 0 0)) [(i,flP F)] [k]:=
 qde λh₂ h1 h2=>qt2 F m hm hE i k h₂ ((h2 _ (xQ.2 rfl)).trans hi) ((h1 k (xQ.2 rfl)).trans hk)
variable{R:Value->Mz->Prop}
theorem qn0{g:FuncId}{vs vs':List Value}{h:Hp}(hv:All2 (λv v'=>∀r,den r v=den r v') vs vs')(hc:CallAll P g vs' h R):CallAll P g vs h R:=λX ρ w xs H hx=>by
 refine hc X ρ w xs H ?_;have key:∀(vs vs' xs:List Value),All2 (λv v'=>∀r,den r v=den r v') vs vs'->All2 (Den (Fil h) ρ) vs xs->All2 (Den (Fil h) ρ) vs' xs:=by
  intro vs
  induction vs with
  | nil=>
   intro vs' xs hv hx;cases vs' with
   | nil=>exact hx
   | cons _ _=>exact hv.elim
  | cons v vs ih=>
   intro vs' xs hv hx;cases vs' with
   | nil=>exact hv.elim
   | cons v' vs'=>
    cases xs with
    | nil=>exact hx.elim
    | cons x xs=>exact⟨λr hr=>(hv.1 r).symm.trans (hx.1 r hr),ih _ _ hv.2 hx.2⟩
 exact key _ _ _ hv hx
theorem qt6(k nd n px py qx qy ex ey ea eb ed x b:Int)(r:Rz):den r (q4j k nd n px py qx qy ex ey ea eb ed x b (.slice none 0 0))=den r (⟨k,nd,n,px,py,qx,qy,ex,ey,ea,eb,ed,x,b,none⟩:Sp).v:=by
 rw[Sp.den];show Value.agg ((⟨[xc k,xc nd,xc n,xc px,xc py,xc qx,xc qy,xc ex,xc ey,xc ea,xc eb,xc ed,xc x,.int .u8 b,.slice none 0 0]⟩:Array Value).map (den1 r))=_;simp only[yr,xk,xZ];rfl
theorem qid{h:Hp}{p:Value}(k nd n px py qx qy ex ey ea eb ed x b:Int)(hc:CallAll prog 71 [p,(⟨k,nd,n,px,py,qx,qy,ex,ey,ea,eb,ed,x,b,none⟩:Sp).v] h R):CallAll prog 71 [p,q4j k nd n px py qx qy ex ey ea eb ed x b (.slice none 0 0)] h R:=
 qn0 (vs':=[p,(⟨k,nd,n,px,py,qx,qy,ex,ey,ea,eb,ed,x,b,none⟩:Sp).v]) ⟨λr=>rfl,λr=>qt6 _ _ _ _ _ _ _ _ _ _ _ _ _ _ r,xb⟩ hc
theorem qi7(i:Nat)(on:Nat->Bool)(mk:Nat->Am)(s:List Am×Int)(n:Nat)(hon:∀j,j<n->on j=true)(hl:s.1.length+n<=512):∀j,j<=n->(sendA i on mk s j).1.length=s.1.length+(j-if i<j then 1 else 0)
 | 0,_=>by simp[sendA]
 | j+1,h=>by
  have ih:=qi7 i on mk s n hon hl j Q4P;unfold sendA;by_cases e:j=i
  .rw[if_pos (.inl e),ih,if_neg Q4P,if_pos Q4P];omega
  .rw[if_neg (λh=>h.elim e λh2=>by rw[hon j Q4P] at h2;cases h2)];unfold q8j;rw[if_pos (by rw[ih];split<;>omega)];show((sendA i on mk s j).1++[mk j]).length=_;rw[xP,ih];show s.1.length+(j-if i<j then 1 else 0)+1=s.1.length+(j+1-if i<j+1 then 1 else 0);by_cases h3:i<j
   .rw[if_pos h3,if_pos Q4P];omega
   .rw[if_neg h3,if_neg Q4P];omega
theorem qi8(C P:Nat->Int)(n:Nat)(on:Nat->Bool)(now:Nat->Int)(g:Int)(s:Nat->NSt)(lost:Int)(hon:∀j,j<n->on j=true)(hdue:∀j,j<n->¬ now j<(s j).tx)(hn:n<=16):∀j,j<=n->(tickA C P n on now g (s,([],lost)) j).2.1.length=j*(n-1)
 | 0,_=>by simp[tickA]
 | j+1,h=>by
  have ih:=qi8 C P n on now g s lost hon hdue hn j Q4P;unfold tickA;rw[if_pos (hon j Q4P)];show(q6c _ _ _ _ _ _).1.length=_;have hs:(tickA C P n on now g (s,([],lost)) j).1 j=s j:=qg5 _ _ _ _ _ _ _ j j (nlr _);rw[hs];unfold q6o;rw[if_neg (hdue j Q4P)];show(sendA _ _ _ _ _).1.length=_;have hb:j*(n-1)<=15*15:=x9 Q4P Q4P;rw[qi7 _ _ _ _ n hon (by rw[ih];omega) n (nlr _),ih,if_pos Q4P,Nat.succ_mul]
end Go.Proofs.YtggfpcfkbilkmaaGreatDoor


namespace Go.Proofs.YtggfpcfkbilkmaaGreatDoor.Sx
open Go Go.RowKit
structure q79(W:World)(p:Nat×Nat)(S:Nat->Prop)(w:World):Prop where
 at_:p.1<W.heap.size
 dom:∀b,S b↔b<W.heap.size
 size:W.heap.size<=w.heap.size
 old:∀b,b<W.heap.size->w.heap[b]?=W.heap[b]?
theorem q3c{w w':World}{b:Nat}(hl:b<w.heap.size)(h:w'.heap[b]?=w.heap[b]?):b<w'.heap.size:=by
 have:w.heap[b]?=some (w.heap[b]'hl):=yQ hl;rw[this] at h;exact(xI.1 h).1
abbrev jdh(W:World):Ext where
 inv:=λp S w=>q79 W p S w
 keep:=λ{p S w w'} h hb=>⟨h.at_,h.dom,by
   have h1:=h.at_;have h2:=hb (W.heap.size-1) ((h.dom _).2 Q4P);have h3:=q3c (b:=W.heap.size-1) (w:=w) (by have:=h.size;omega) h2;omega,λb hl=>(hb b ((h.dom b).2 hl)).trans (h.old b hl)⟩
abbrev q5j(W:World):Chunk:=@Chunk.mk (jdh W) true 0 []
def Kept(W w:World):Prop:=W.heap.size<=w.heap.size/\∀b,b<W.heap.size->w.heap[b]?=W.heap[b]?
theorem Kept.cell{W w:World}(h:Kept W w){b o:Nat}{v:Value}(hv:W.cell? ⟨b,o,none⟩=some v):w.cell? ⟨b,o,none⟩=some v:=by
 have hl:b<W.heap.size:=World.block_lt_of_cell? _ _ hv;rw[<-hv];simp only[World.cell?,h.2 _ hl]
theorem Kept.below{W w w':World}(h:Kept W w)(hb:Below w.heap.size w w'):Kept W w':=⟨xH h.1 hb.size,λb hl=>(hb.block b (xh hl h.1)).trans (h.2 b hl)⟩
section
variable{P:Program}{G:Tys}
theorem qw9{X:Ctx}{ρ:Rz}{h:Hp}{w:World}{i:Nat}{W:World}(H:HOK X ρ h w)(hi:h[i]?=some (some (q5j W))):Kept W w:=by
 obtain⟨S,E⟩:=H.ext;have M:q79 W (ρ i) (S i) w:=E.inv i _ hi;exact⟨M.size,M.old⟩
variable{vs:List Value}
theorem qie{g:FuncId}{h:Hp}{v:Value}(i:Nat)(W:World)(hi:h[i]?=some (some (q5j W)))(hp:vs.all qai=true)(hv:qar v=true)(hr:∀xs w,(callFunc g xs).run P w=.ok (.enter g xs) w)
  (hc:∀w,Kept W w->Calls P g ⟨vs⟩ w λe w'=>e=.returned v/\Below w.heap.size w w'):qae P g vs h v [] [i]:=
 λh₂ hrh _ X ρ w xs H hx=>by
  obtain rfl:=qca hp hx;refine .inr ⟨hr _ w,(hc w (qw9 H ((hrh i Q3Z).trans hi))).mono ?_⟩;exact Q1a
theorem qms{f:FuncId}{fn:Func}{c:Code}{V:Value}(W:World)(hG:q32 P G)(hm:P.follows .mixedOrders=true)(hf:P.funcs[f]?=some fn)(hb:fn.body=some c)(hW:0<W.heap.size)(hp:vs.all qai=true)(hV:qar V=true)
  (hwp:initK vs fn.ntmps λt=>wpC P G 1 c (bodyQ P G fn λv st=>N (v=V/\st.h[0]?=some (some (q5j W)))) ⟨t,[some (q5j W)]⟩):Calls P f ⟨vs⟩ W λe w'=>e=.returned V/\Below W.heap.size W w':=by
 let X:Ctx:=⟨W,λa=>a.block<W.heap.size,1,λ_=>(0,0)⟩
 have one:∀(k:Nat)(d:Chunk),[some (q5j W)][k]?=some (some d)->k=0/\d=q5j W:=λk d hk=>Q1H
 have H:HOK X (λ_=>(0,0)) [some (q5j W)] W:=by
  refine⟨Evo.refl _ _,λi hi=>⟨⟨_,by
    have hi:i<1:=hi;obtain rfl:i=0:=by omega
    rfl⟩,rfl⟩,λk d hk=>hW,λk d hk j hj=>?_,λk d hk ho j hj=>?_,λk d l e hk ho hl hne=>?_,λi b=>i=0/\b<W.heap.size,λk d hk=>?_,λk d b hk hS=>?_,λk d b l e hk hS hl hne=>?_⟩
  .exact Q18
  .exact Q18
  .exact Q23
  .obtain⟨rfl,rfl⟩:=one k d hk;exact⟨hW,λb=>⟨λh=>h.2,λh=>⟨rfl,h⟩⟩,nlr _,λ_ _=>rfl⟩
  .exact Q1E
  exact Q22
 have hd:∀{vs:List Value},vs.all qai=true->All2 (Den (Fil [some (q5j W)]) λ_=>(0,0)) vs vs:=by
  intro vs
  induction vs with
  | nil=>exact λ_=>trivial
  | cons v r ih=>
   exact Q1s
 refine(qd5 (args:=⟨vs⟩) (X:=X) hG hm hf hb H (hd hp) hwp).mono ?_
 rintro e w' ⟨ρ',v,st,x,rfl,H',hdx,hq⟩
 obtain⟨rfl,hF⟩:=hq.out
 obtain⟨S,E⟩:=H'.ext
 have M:q79 W (ρ' 0) (S 0) w':=E.inv 0 _ hF
 exact⟨by rw[<-hdx.self,qa7 hV],H'.evo.os,H'.evo.tape,H'.evo.output,H'.evo.size,λb hb=>M.old b hb⟩
theorem qxa{g:FuncId}{fn:Func}{c:Code}{V:Value}{h:Hp}(i:Nat)(W:World)(hi:h[i]?=some (some (q5j W)))(hG:q32 P G)(hm:P.follows .mixedOrders=true)(hf:P.funcs[g]?=some fn)(hb:fn.body=some c)(hW:0<W.heap.size)(hp:vs.all qai=true)(hV:qar V=true)(hr:∀xs w,(callFunc g xs).run P w=.ok (.enter g xs) w)
  (hwp:∀w,Kept W w->initK vs fn.ntmps λt=>wpC P G 1 c (bodyQ P G fn λv st=>N (v=V/\st.h[0]?=some (some (q5j w)))) ⟨t,[some (q5j w)]⟩):qae P g vs h V [] [i]:=
 qie i W hi hp hV hr λw hk=>qms w hG hm hf hb (xh hW hk.1) hp hV (hwp w hk)
end
end Go.Proofs.YtggfpcfkbilkmaaGreatDoor.Sx


namespace Go.Proofs
open Go.Shelf
def Tryz.laysM171_ren:Go.Shelf.Ren:=⟨fun|171=>6|243=>12|246=>22|283=>55|284=>56|285=>57|286=>58|129=>84|317=>83|318=>85|319=>86|320=>87|337=>112|338=>113|n=>n,fun|3=>3|9=>9|2=>2|4=>4|171=>110|0=>0|53=>31|37=>30|5=>5|173=>113|212=>158|51=>159|20=>20|213=>160|46=>126|232=>218|233=>219|n=>n,fun|17=>0|18=>2|19=>3|n=>n⟩
theorem Tryz.laysM171:Go.Proofs.LaysM.n171 prog Tryz.laysM171_ren:={
 mixed:=by kernel_rfl
 f129:=func84.trans (congrArg some Q4U)
 f171:=func6.trans (congrArg some Q4U)
 f243:=func12.trans (congrArg some Q4U)
 f246:=func22.trans (congrArg some Q4U)
 f283:=func55.trans (congrArg some Q4U)
 f284:=func56.trans (congrArg some Q4U)
 f285:=func57.trans (congrArg some Q4U)
 f286:=func58.trans (congrArg some Q4U)
 f317:=func83.trans (congrArg some Q4U)
 f318:=func85.trans (congrArg some Q4U)
 f319:=func86.trans (congrArg some Q4U)
 f320:=func87.trans (congrArg some Q4U)
 f337:=func112.trans (congrArg some Q4U)
 f338:=func113.trans (congrArg some Q4U)
 t0:=underlying0
 a0:=Tryz.isAgg0
 z0:=Tryz.sizeOf0
 v0:=Tryz.zeroValue0
 t2:=underlying2
 a2:=Tryz.isAgg2
 z2:=Tryz.sizeOf2
 v2:=Tryz.zeroValue2
 t3:=underlying3
 a3:=Tryz.isAgg3
 z3:=Tryz.sizeOf3
 v3:=Tryz.zeroValue3
 t4:=underlying4
 a4:=Tryz.isAgg4
 z4:=Tryz.sizeOf4
 v4:=Tryz.zeroValue4
 t5:=underlying5
 a5:=Tryz.isAgg5
 z5:=Tryz.sizeOf5
 v5:=Tryz.zeroValue5
 t9:=underlying9
 a9:=Tryz.isAgg9
 z9:=Tryz.sizeOf9
 v9:=Tryz.zeroValue9
 t20:=underlying20
 a20:=Tryz.isAgg20
 z20:=Tryz.sizeOf20
 v20:=Tryz.zeroValue20
 t37:=underlying30
 a37:=Tryz.isAgg30
 z37:=Tryz.sizeOf30
 v37:=Tryz.zeroValue30
 t46:=underlying126
 a46:=Tryz.isAgg126
 z46:=Tryz.sizeOf126
 v46:=Tryz.zeroValue126
 t51:=underlying159
 a51:=Tryz.isAgg159
 z51:=Tryz.sizeOf159
 v51:=Tryz.zeroValue159
 t53:=underlying31
 a53:=Tryz.isAgg31
 z53:=Tryz.sizeOf31
 v53:=Tryz.zeroValue31
 t171:=underlying110
 a171:=Tryz.isAgg110
 z171:=Tryz.sizeOf110
 v171:=Tryz.zeroValue110
 t173:=underlying113
 a173:=Tryz.isAgg113
 z173:=Tryz.sizeOf113
 v173:=Tryz.zeroValue113
 t212:=underlying158
 a212:=Tryz.isAgg158
 z212:=Tryz.sizeOf158
 v212:=Tryz.zeroValue158
 t213:=underlying160
 a213:=Tryz.isAgg160
 z213:=Tryz.sizeOf160
 t232:=underlying218
 a232:=Tryz.isAgg218
 z232:=Tryz.sizeOf218
 v232:=Tryz.zeroValue218
 t233:=underlying219
 a233:=Tryz.isAgg219
 z233:=Tryz.sizeOf219
 v233:=Tryz.zeroValue219
 g17:=by kernel_rfl
 g18:=by kernel_rfl
 g19:=by kernel_rfl
 i0:=by kernel_rfl
 i2:=by kernel_rfl
 i3:=by kernel_rfl
 i4:=by kernel_rfl
 i5:=by kernel_rfl
 i9:=by kernel_rfl
 i20:=by kernel_rfl
 i37:=by kernel_rfl
 i46:=by kernel_rfl
 i51:=by kernel_rfl
 i53:=by kernel_rfl
 i171:=by kernel_rfl
 i173:=by kernel_rfl
 i212:=by kernel_rfl
 i232:=by kernel_rfl
 i233:=by kernel_rfl
 m17:=by kernel_rfl
 m18:=by kernel_rfl
 m19:=by kernel_rfl }
open Go.RowKit Go.Sort Go.Lib in
theorem Tryz.strconv_Itoa(n : Int)(h0 : -9223372036854775808 <= n)(h1 : n <= 9223372036854775807)(w : World)(htab : Lib.TabIs prog w "internal/strconv.uint64pow10" .u64 Lib.pow10Tab):
  Calls prog 6 #[xc n] w λe w'=>e=.returned (.string ⟨(Lib.itoa n).toArray⟩)/\∃k os,w'=grow (w.drewN k) os:=Any.strconv_Itoa Tryz.laysM171 n h0 h1 w htab
def Tryz.laysM173_ren:Go.Shelf.Ren:=⟨fun|173=>25|246=>22|283=>55|284=>56|285=>57|286=>58|129=>84|317=>83|318=>85|319=>86|320=>87|337=>112|338=>113|n=>n,fun|2=>2|3=>3|9=>9|4=>4|171=>110|0=>0|53=>31|37=>30|5=>5|173=>113|212=>158|51=>159|20=>20|213=>160|46=>126|232=>218|233=>219|n=>n,fun|17=>0|18=>2|19=>3|n=>n⟩
theorem Tryz.laysM173:Go.Proofs.LaysM.n173 prog Tryz.laysM173_ren:={
 mixed:=by kernel_rfl
 f129:=func84.trans (congrArg some Q4U)
 f173:=func25.trans (congrArg some Q4U)
 f246:=func22.trans (congrArg some Q4U)
 f283:=func55.trans (congrArg some Q4U)
 f284:=func56.trans (congrArg some Q4U)
 f285:=func57.trans (congrArg some Q4U)
 f286:=func58.trans (congrArg some Q4U)
 f317:=func83.trans (congrArg some Q4U)
 f318:=func85.trans (congrArg some Q4U)
 f319:=func86.trans (congrArg some Q4U)
 f320:=func87.trans (congrArg some Q4U)
 f337:=func112.trans (congrArg some Q4U)
 f338:=func113.trans (congrArg some Q4U)
 t0:=underlying0
 a0:=Tryz.isAgg0
 z0:=Tryz.sizeOf0
 v0:=Tryz.zeroValue0
 t2:=underlying2
 a2:=Tryz.isAgg2
 z2:=Tryz.sizeOf2
 v2:=Tryz.zeroValue2
 t3:=underlying3
 a3:=Tryz.isAgg3
 z3:=Tryz.sizeOf3
 v3:=Tryz.zeroValue3
 t4:=underlying4
 a4:=Tryz.isAgg4
 z4:=Tryz.sizeOf4
 v4:=Tryz.zeroValue4
 t5:=underlying5
 a5:=Tryz.isAgg5
 z5:=Tryz.sizeOf5
 v5:=Tryz.zeroValue5
 t9:=underlying9
 a9:=Tryz.isAgg9
 z9:=Tryz.sizeOf9
 v9:=Tryz.zeroValue9
 t20:=underlying20
 a20:=Tryz.isAgg20
 z20:=Tryz.sizeOf20
 v20:=Tryz.zeroValue20
 t37:=underlying30
 a37:=Tryz.isAgg30
 z37:=Tryz.sizeOf30
 v37:=Tryz.zeroValue30
 t46:=underlying126
 a46:=Tryz.isAgg126
 z46:=Tryz.sizeOf126
 v46:=Tryz.zeroValue126
 t51:=underlying159
 a51:=Tryz.isAgg159
 z51:=Tryz.sizeOf159
 v51:=Tryz.zeroValue159
 t53:=underlying31
 a53:=Tryz.isAgg31
 z53:=Tryz.sizeOf31
 v53:=Tryz.zeroValue31
 t171:=underlying110
 a171:=Tryz.isAgg110
 z171:=Tryz.sizeOf110
 v171:=Tryz.zeroValue110
 t173:=underlying113
 a173:=Tryz.isAgg113
 z173:=Tryz.sizeOf113
 v173:=Tryz.zeroValue113
 t212:=underlying158
 a212:=Tryz.isAgg158
 z212:=Tryz.sizeOf158
 v212:=Tryz.zeroValue158
 t213:=underlying160
 a213:=Tryz.isAgg160
 z213:=Tryz.sizeOf160
 t232:=underlying218
 a232:=Tryz.isAgg218
 z232:=Tryz.sizeOf218
 v232:=Tryz.zeroValue218
 t233:=underlying219
 a233:=Tryz.isAgg219
 z233:=Tryz.sizeOf219
 v233:=Tryz.zeroValue219
 g17:=by kernel_rfl
 g18:=by kernel_rfl
 g19:=by kernel_rfl
 i0:=by kernel_rfl
 i2:=by kernel_rfl
 i3:=by kernel_rfl
 i4:=by kernel_rfl
 i5:=by kernel_rfl
 i9:=by kernel_rfl
 i20:=by kernel_rfl
 i37:=by kernel_rfl
 i46:=by kernel_rfl
 i51:=by kernel_rfl
 i53:=by kernel_rfl
 i171:=by kernel_rfl
 i173:=by kernel_rfl
 i212:=by kernel_rfl
 i232:=by kernel_rfl
 i233:=by kernel_rfl
 m17:=by kernel_rfl
 m18:=by kernel_rfl
 m19:=by kernel_rfl }
open Go.RowKit Go.Sort Go.Lib in
theorem Tryz.strconv_FormatInt_10(n : Int)(h0 : -9223372036854775808 <= n)(h1 : n <= 9223372036854775807)(w : World)(htab : Lib.TabIs prog w "internal/strconv.uint64pow10" .u64 Lib.pow10Tab):
  Calls prog 25 #[xc n,xc 10] w λe w'=>e=.returned (.string ⟨(Lib.itoa n).toArray⟩)/\∃k os,w'=grow (w.drewN k) os:=Any.strconv_FormatInt_10 Tryz.laysM173 n h0 h1 w htab
def Tryz.laysC174_ren:Go.Shelf.Ren:=⟨fun|174=>97|247=>125|245=>126|287=>154|279=>155|280=>156|281=>157|282=>158|321=>196|322=>197|316=>198|171=>6|205=>199|243=>12|246=>22|283=>55|284=>56|285=>57|286=>58|129=>84|317=>83|318=>85|319=>86|320=>87|337=>112|338=>113|n=>n,fun|9=>9|3=>3|2=>2|75=>169|85=>170|4=>4|167=>228|5=>5|53=>31|175=>229|46=>126|168=>231|37=>30|0=>0|210=>282|21=>21|127=>217|145=>320|143=>318|171=>110|173=>113|212=>158|51=>159|20=>20|213=>160|232=>218|233=>219|80=>74|n=>n,fun|15=>6|16=>7|17=>0|18=>2|19=>3|n=>n⟩
theorem Tryz.laysC174:Go.Proofs.LaysC.n174 prog Tryz.laysC174_ren:={
 mixed:=by kernel_rfl
 f129:=func84.trans (congrArg some Q4U)
 f171:=func6.trans (congrArg some Q4U)
 f174:=func97.trans (congrArg some Q4U)
 f205:=func199.trans (congrArg some Q4U)
 f243:=func12.trans (congrArg some Q4U)
 f245:=func126.trans (congrArg some Q4U)
 f246:=func22.trans (congrArg some Q4U)
 f247:=func125.trans (congrArg some Q4U)
 f279:=func155.trans (congrArg some Q4U)
 f280:=func156.trans (congrArg some Q4U)
 f281:=func157.trans (congrArg some Q4U)
 f282:=func158.trans (congrArg some Q4U)
 f283:=func55.trans (congrArg some Q4U)
 f284:=func56.trans (congrArg some Q4U)
 f285:=func57.trans (congrArg some Q4U)
 f286:=func58.trans (congrArg some Q4U)
 f287:=func154.trans (congrArg some Q4U)
 f316:=func198.trans (congrArg some Q4U)
 f317:=func83.trans (congrArg some Q4U)
 f318:=func85.trans (congrArg some Q4U)
 f319:=func86.trans (congrArg some Q4U)
 f320:=func87.trans (congrArg some Q4U)
 f321:=func196.trans (congrArg some Q4U)
 f322:=func197.trans (congrArg some Q4U)
 f337:=func112.trans (congrArg some Q4U)
 f338:=func113.trans (congrArg some Q4U)
 t0:=underlying0
 a0:=Tryz.isAgg0
 z0:=Tryz.sizeOf0
 v0:=Tryz.zeroValue0
 t2:=underlying2
 a2:=Tryz.isAgg2
 z2:=Tryz.sizeOf2
 v2:=Tryz.zeroValue2
 t3:=underlying3
 a3:=Tryz.isAgg3
 z3:=Tryz.sizeOf3
 v3:=Tryz.zeroValue3
 t4:=underlying4
 a4:=Tryz.isAgg4
 z4:=Tryz.sizeOf4
 v4:=Tryz.zeroValue4
 t5:=underlying5
 a5:=Tryz.isAgg5
 z5:=Tryz.sizeOf5
 v5:=Tryz.zeroValue5
 t9:=underlying9
 a9:=Tryz.isAgg9
 z9:=Tryz.sizeOf9
 v9:=Tryz.zeroValue9
 t20:=underlying20
 a20:=Tryz.isAgg20
 z20:=Tryz.sizeOf20
 v20:=Tryz.zeroValue20
 t21:=underlying21
 a21:=Tryz.isAgg21
 z21:=Tryz.sizeOf21
 v21:=Tryz.zeroValue21
 t37:=underlying30
 a37:=Tryz.isAgg30
 z37:=Tryz.sizeOf30
 v37:=Tryz.zeroValue30
 t46:=underlying126
 a46:=Tryz.isAgg126
 z46:=Tryz.sizeOf126
 v46:=Tryz.zeroValue126
 t51:=underlying159
 a51:=Tryz.isAgg159
 z51:=Tryz.sizeOf159
 v51:=Tryz.zeroValue159
 t53:=underlying31
 a53:=Tryz.isAgg31
 z53:=Tryz.sizeOf31
 v53:=Tryz.zeroValue31
 t75:=underlying169
 a75:=Tryz.isAgg169
 z75:=Tryz.sizeOf169
 v75:=Tryz.zeroValue169
 t85:=underlying170
 a85:=Tryz.isAgg170
 z85:=Tryz.sizeOf170
 v85:=Tryz.zeroValue170
 t127:=underlying217
 a127:=Tryz.isAgg217
 z127:=Tryz.sizeOf217
 v127:=Tryz.zeroValue217
 t143:=underlying318
 a143:=Tryz.isAgg318
 z143:=Tryz.sizeOf318
 v143:=Tryz.zeroValue318
 t145:=underlying320
 a145:=Tryz.isAgg320
 z145:=Tryz.sizeOf320
 v145:=Tryz.zeroValue320
 t167:=underlying228
 a167:=Tryz.isAgg228
 z167:=Tryz.sizeOf228
 v167:=Tryz.zeroValue228
 t168:=underlying231
 a168:=Tryz.isAgg231
 z168:=Tryz.sizeOf231
 v168:=Tryz.zeroValue231
 t171:=underlying110
 a171:=Tryz.isAgg110
 z171:=Tryz.sizeOf110
 v171:=Tryz.zeroValue110
 t173:=underlying113
 a173:=Tryz.isAgg113
 z173:=Tryz.sizeOf113
 v173:=Tryz.zeroValue113
 t175:=underlying229
 a175:=Tryz.isAgg229
 z175:=Tryz.sizeOf229
 v175:=Tryz.zeroValue229
 t210:=underlying282
 a210:=Tryz.isAgg282
 z210:=Tryz.sizeOf282
 v210:=Tryz.zeroValue282
 t212:=underlying158
 a212:=Tryz.isAgg158
 z212:=Tryz.sizeOf158
 v212:=Tryz.zeroValue158
 t213:=underlying160
 a213:=Tryz.isAgg160
 z213:=Tryz.sizeOf160
 t232:=underlying218
 a232:=Tryz.isAgg218
 z232:=Tryz.sizeOf218
 v232:=Tryz.zeroValue218
 t233:=underlying219
 a233:=Tryz.isAgg219
 z233:=Tryz.sizeOf219
 v233:=Tryz.zeroValue219
 g15:=by kernel_rfl
 g16:=by kernel_rfl
 g17:=by kernel_rfl
 g18:=by kernel_rfl
 g19:=by kernel_rfl
 t80:=underlying74
 a80:=Tryz.isAgg74
 z80:=Tryz.sizeOf74
 v80:=Tryz.zeroValue74
 i0:=by kernel_rfl
 i2:=by kernel_rfl
 i3:=by kernel_rfl
 i4:=by kernel_rfl
 i5:=by kernel_rfl
 i9:=by kernel_rfl
 i20:=by kernel_rfl
 i21:=by kernel_rfl
 i37:=by kernel_rfl
 i46:=by kernel_rfl
 i51:=by kernel_rfl
 i53:=by kernel_rfl
 i75:=by kernel_rfl
 i80:=by kernel_rfl
 i85:=by kernel_rfl
 i127:=by kernel_rfl
 i143:=by kernel_rfl
 i145:=by kernel_rfl
 i167:=by kernel_rfl
 i168:=by kernel_rfl
 i171:=by kernel_rfl
 i173:=by kernel_rfl
 i175:=by kernel_rfl
 i210:=by kernel_rfl
 i212:=by kernel_rfl
 i232:=by kernel_rfl
 i233:=by kernel_rfl
 m15:=by kernel_rfl
 m16:=by kernel_rfl
 m17:=by kernel_rfl
 m18:=by kernel_rfl
 m19:=by kernel_rfl
 c0:=by kernel_rfl
 c2:=by kernel_rfl
 c3:=by kernel_rfl
 c4:=by kernel_rfl
 c5:=by kernel_rfl
 c9:=by kernel_rfl
 c20:=by kernel_rfl
 c21:=by kernel_rfl
 c37:=by kernel_rfl
 c46:=by kernel_rfl
 c51:=by kernel_rfl
 c53:=by kernel_rfl
 c75:=by kernel_rfl
 c80:=by kernel_rfl
 c85:=by kernel_rfl
 c127:=by kernel_rfl
 c143:=by kernel_rfl
 c145:=by kernel_rfl
 c167:=by kernel_rfl
 c168:=by kernel_rfl
 c171:=by kernel_rfl
 c173:=by kernel_rfl
 c175:=by kernel_rfl
 c210:=by kernel_rfl
 c212:=by kernel_rfl
 c213:=by kernel_rfl
 c232:=by kernel_rfl
 c233:=by kernel_rfl }
open Go.RowKit in
theorem Tryz.strconv_ParseInt_10_at64_ok(s:ByteArray)(hmax:s.size<=9223372036854775806)(v:Int)(h:Lib.parseIntB 64 s.data.toList=.ok v)(w:World):
  Calls prog 97 #[.string s,xc 10,xc 64] w λe w'=>e=.returned (.tuple #[xc v,.nilIface])/\(w'=w\/∃t,w'=Lib.bytesWorld w 5 t):=Any.strconv_ParseInt_10_at64_ok Tryz.laysC174 s hmax v h w
def Tryz.lays146_ren:Go.Shelf.Ren:=⟨fun|146=>14|221=>23|268=>59|138=>60|143=>61|195=>88|197=>89|218=>90|219=>91|260=>114|217=>115|225=>116|224=>117|267=>118|266=>147|314=>148|n=>n,fun|9=>9|31=>44|3=>3|4=>4|0=>0|105=>163|21=>21|5=>5|46=>126|119=>220|139=>223|138=>222|146=>224|51=>159|n=>n,fun|1=>1|3=>4|4=>5|n=>n⟩
theorem Tryz.lays146:Go.Proofs.Lays.n146 prog Tryz.lays146_ren:={
 mixed:=by kernel_rfl
 f138:=func60.trans (congrArg some Q4U)
 f143:=func61.trans (congrArg some Q4U)
 f146:=func14.trans (congrArg some Q4U)
 f195:=func88.trans (congrArg some Q4U)
 f197:=func89.trans (congrArg some Q4U)
 f217:=func115.trans (congrArg some Q4U)
 f218:=func90.trans (congrArg some Q4U)
 f219:=func91.trans (congrArg some Q4U)
 f221:=func23.trans (congrArg some Q4U)
 f224:=func117.trans (congrArg some Q4U)
 f225:=func116.trans (congrArg some Q4U)
 f260:=func114.trans (congrArg some Q4U)
 f266:=func147.trans (congrArg some Q4U)
 f267:=func118.trans (congrArg some Q4U)
 f268:=func59.trans (congrArg some Q4U)
 f314:=func148.trans (congrArg some Q4U)
 t0:=underlying0
 a0:=Tryz.isAgg0
 z0:=Tryz.sizeOf0
 v0:=Tryz.zeroValue0
 t3:=underlying3
 a3:=Tryz.isAgg3
 z3:=Tryz.sizeOf3
 v3:=Tryz.zeroValue3
 t4:=underlying4
 a4:=Tryz.isAgg4
 z4:=Tryz.sizeOf4
 v4:=Tryz.zeroValue4
 t5:=underlying5
 a5:=Tryz.isAgg5
 z5:=Tryz.sizeOf5
 v5:=Tryz.zeroValue5
 t9:=underlying9
 a9:=Tryz.isAgg9
 z9:=Tryz.sizeOf9
 v9:=Tryz.zeroValue9
 t21:=underlying21
 a21:=Tryz.isAgg21
 z21:=Tryz.sizeOf21
 v21:=Tryz.zeroValue21
 t31:=underlying44
 a31:=Tryz.isAgg44
 z31:=Tryz.sizeOf44
 v31:=Tryz.zeroValue44
 t46:=underlying126
 a46:=Tryz.isAgg126
 z46:=Tryz.sizeOf126
 v46:=Tryz.zeroValue126
 t51:=underlying159
 a51:=Tryz.isAgg159
 z51:=Tryz.sizeOf159
 v51:=Tryz.zeroValue159
 t105:=underlying163
 a105:=Tryz.isAgg163
 z105:=Tryz.sizeOf163
 v105:=Tryz.zeroValue163
 t119:=underlying220
 a119:=Tryz.isAgg220
 z119:=Tryz.sizeOf220
 t138:=underlying222
 a138:=Tryz.isAgg222
 z138:=Tryz.sizeOf222
 v138:=Tryz.zeroValue222
 t139:=underlying223
 a139:=Tryz.isAgg223
 z139:=Tryz.sizeOf223
 v139:=Tryz.zeroValue223
 t146:=underlying224
 a146:=Tryz.isAgg224
 z146:=Tryz.sizeOf224
 v146:=Tryz.zeroValue224
 g1:=by kernel_rfl
 g3:=by kernel_rfl
 g4:=by kernel_rfl }
open Go.RowKit Go.Lib in
theorem Tryz.strings_Split(s sep:ByteArray)(m:Int)(w:World)(hs:s.size<4294967281)(hm:w.cell? ⟨1,0,none⟩=some (xc m))(h1:1<=sep.size):
  Calls prog 14 #[.string s,.string sep] w λe w'=>
   e=.returned (.slice (some ⟨w.heap.size,0,none⟩) (Lib.countB s sep+1) (Lib.countB s sep+1))/\w'=w.alloc (.cells ((Lib.splitB sep 0 (Lib.countB s sep) s).map Value.string).toArray 9):=Any.strings_Split Tryz.lays146 Q4U s sep m w hs hm h1
end Go.Proofs


namespace Go.Proofs.YtggfpcfkbilkmaaGreatDoor.Txt
open Go Go.Lib
theorem qg7(k:Nat)(h:k<10):(UInt8.ofNat (48+k)).toNat=48+k:=by
 rw[UInt8.toNat_ofNat'];omega
theorem qt7:∀(u:Nat)(c:UInt8),c∈decDigits u->48<=c.toNat/\c.toNat<=57:=by
 intro u
 induction u using Nat.strongRecOn with
 | _ u ih=>
  intro c hc;rw[decDigits] at hc;split at hc
  .rename_i h;rw[xQ] at hc;rw[hc,qg7 u h];omega
  .rename_i h;rcases yZ.1 hc with hc|hc
   .exact ih (u / 10) Q4P c hc
   .rw[xQ] at hc;rw[hc,qg7 (u%10) Q4P];omega
theorem qyx(u:Nat):decDigits u≠[]:=by
 rw[decDigits];split
 .simp
 .simp
theorem qt8(M:Nat)(h64:M<=18446744073709551615):∀(u:Nat)(r:List UInt8),u<=M->parseUintM M 0 (decDigits u++r)=parseUintM M u r:=by
 intro u
 induction u using Nat.strongRecOn with
 | _ u ih=>
  intro r hu;rw[decDigits];split
  .rename_i h;rw[List.singleton_append,parseUintM,qg7 u h,if_pos Q4P,if_neg Q4P,if_neg Q4P];congr 1;omega
  .rename_i h;rw[List.append_assoc,ih (u / 10) Q4P _ Q4P,List.singleton_append,parseUintM,qg7 (u%10) Q4P,if_pos Q4P,if_neg Q4P,if_neg Q4P];congr 1;omega
theorem qt9(u:Nat)(h:u<=18446744073709551615):parseUintB 64 (decDigits u)=.ok u:=by
 unfold parseUintB;rw[if_neg (qyx u)];have:=qt8 (2^64-1) Q4T u [] Q4P;rw[List.append_nil] at this;rw[this];rfl
theorem parse_itoa(n:Int)(h0 : -9223372036854775808<=n)(h1:n<=9223372036854775807):parseIntB 64 (itoa n)=.ok n:=by
 unfold itoa;split
 .rename_i h;rw[parseIntB_minus,qt9 _ Q4P];simp only[signedC];rw[if_neg Q4P];congr 1;omega
 .rename_i h;have hd:=qt7 n.toNat;have hp:=qt9 n.toNat Q4P;have hne:=qyx n.toNat;generalize decDigits n.toNat=l at hd hp hne;cases l with
  | nil=>exact absurd rfl hne
  | cons c r=>
   have:=hd c (yp ..);rw[parseIntB_plain 64 c r Q4P Q4P,hp];simp only[signlessC];rw[if_neg Q4P];congr 1;omega
end Go.Proofs.YtggfpcfkbilkmaaGreatDoor.Txt


namespace Go.Proofs.YtggfpcfkbilkmaaGreatDoor
open Go Go.RowKit Sx
structure TxOK(W:World):Prop where
 pos:0<W.heap.size
 tab : Lib.TabIs prog W "internal/strconv.uint64pow10" .u64 Lib.pow10Tab
 len:∃m,W.cell? ⟨1,0,none⟩=some (xc m)
theorem qxb{W w:World}(h:Kept W w){nm:String}{k:IntKind}{zs:List Int}(ht:Lib.TabIs prog W nm k zs):Lib.TabIs prog w nm k zs:=by
 unfold Lib.TabIs World.var? at *;cases hg:prog.globalNamed nm with
 | none=>simp[hg] at ht
 | some g=>
  simp only[hg,Option.bind_some] at ht ⊢;have hlt:g<W.heap.size:=by
   rcases yc g W.heap.size with h'|h'
   .exact h'
   .rw[Array.getElem?_eq_none h'] at ht;simp at ht
  rw[h.2 g hlt];exact ht
theorem TxOK.kept{W w:World}(h:TxOK W)(hk:Kept W w):TxOK w:=⟨xh h.pos hk.1,qxb hk h.tab,by
 obtain⟨m,hm⟩:=h.len;exact⟨m,hk.cell hm⟩⟩
def q30(n:Int):ByteArray:=⟨(Lib.itoa n).toArray⟩
theorem jdi(W:World)(hW:TxOK W)(n:Int)(hn : -9223372036854775808<=n/\n<=9223372036854775807)(i:Nat)(h:Hp)(hi:h[i]?=some (some (q5j W))):qae prog 25 [xc n,xc 10] h (.string (q30 n)) [] [i]:=
 qie i W hi rfl rfl (call25) λw hk=>(Tryz.strconv_FormatInt_10 n hn.1 hn.2 w (hW.kept hk).tab).mono λe w' ⟨he,k,os,hw⟩=>⟨he,by subst hw;exact Lib.below_grow _ w (nlr _) k os⟩
theorem qbr(n:Int)(hn : -9223372036854775808<=n/\n<=9223372036854775807):(q30 n).size<=21:=Lib.itoa_length_le n hn.1 hn.2
theorem qif(x y:Operand)(a b:ByteArray)(h:a.size+b.size<=9223372036854775807):BinIs prog .add 9 x y (.string a) (.string b) (.string (a++b)):=
 ⟨rfl,rfl,rfl,λw=>by go_simp⟩
def q35(n:Int):Prop:=-9223372036854775808<=n/\n<=9223372036854775807
theorem q6p(W:World)(hW:TxOK W)(n:Int)(hn:q35 n)(i:Nat)(h:Hp)(hi:h[i]?=some (some (q5j W))):qae prog 106 [xc n] h (.string (q30 n)) [] [i]:=by
 refine qxa i W hi tysOK mixed func106 Q4R hW.pos rfl rfl (call106) λw hk=>?_
 repeat' (refine Ba ?_;first|refine Q2J ?_|refine Bc (jdi _ (hW.kept hk) n hn 0 _ Q4R) ?_|exact N.mk ⟨rfl,rfl⟩|fail)
def q4f:ByteArray:=⟨#[44]⟩
def q9p:ByteArray:=⟨#[47]⟩
def q48(x y a b d:Int):ByteArray:=q30 x++q4f++q30 y++q9p++q30 a++q4f++q30 b++q4f++q30 d
theorem qpy{X:Ctx}{ρ:Rz}{h:Hp}{w:World}{i:Nat}{W:World}{F:List By}(H:HOK X ρ h w)(hi:h[i]?=some (some (q3v W F))):Kept W w:=by
 obtain⟨S,E⟩:=H.ext;have M:MemOK W F (ρ i) (S i) w:=E.inv i _ hi;exact⟨M.size,M.old⟩
variable{P:Program}{vs:List Value}
theorem qf2{g:FuncId}{h:Hp}{v:Value}(i:Nat)(W:World)(F:List By)(hi:h[i]?=some (some (q3v W F)))(hp:vs.all qai=true)(hv:qar v=true)(hr:∀xs w,(callFunc g xs).run P w=.ok (.enter g xs) w)
  (hc:∀w,Kept W w->Calls P g ⟨vs⟩ w λe w'=>e=.returned v/\Below w.heap.size w w'):qae P g vs h v [] [i]:=
 λh₂ hrh _ X ρ w xs H hx=>by
  obtain rfl:=qca hp hx;refine .inr ⟨hr _ w,(hc w (qpy H ((hrh i Q3Z).trans hi))).mono ?_⟩;exact Q1a
theorem qua{g:FuncId}{h:Hp}{n:Nat}(ty:TypeId)(cs:List Value)(i K:Nat)(W:World)(F:List By)(hi:h[i]?=some (some (q3v W F)))(hK:h[K]?=some none)(hp:vs.all qai=true)(hn:cs.length=n)(hcs:∀c∈cs,qa2 c=true)(hr:∀xs w,(callFunc g xs).run P w=.ok (.enter g xs) w)
  (hc:∀w,Kept W w->Calls P g ⟨vs⟩ w λe w'=>e=.returned (.slice (some ⟨w.heap.size,0,none⟩) n n)/\w'=w.alloc (.cells ⟨cs⟩ ty)) :
  qae P g vs h (.slice (some ⟨K,0,some 0⟩) n n) [(K,⟨true,n,[(0,n,.agg ⟨cs⟩)]⟩)] [i]:=
 λh₂ hrh hms X ρ w xs H hx=>by
  obtain rfl:=qca hp hx;have h2:h₂[K]?=some none:=(hms (K,⟨true,n,[(0,n,.agg ⟨cs⟩)]⟩) Q3Z).trans hK;refine .inr ⟨hr _ w,(hc w (qpy H ((hrh i Q3Z).trans hi))).mono ?_⟩;rintro e w' ⟨rfl,rfl⟩;obtain⟨ρ',ha,hρ,hH⟩:=H.alloc (c:=⟨true,n,[(0,n,.agg ⟨cs⟩)]⟩) (xs:=⟨cs⟩) (ty:=ty) h2 (by show n=cs.length;exact hn.symm) (λj x hj=>by
   have hj':cs[j]?=some x:=by simpa using hj
   have hl:j<cs.length:=(xe.1 hj').1;have e1:(Chunk.f ⟨true,n,[(0,n,.agg ⟨cs⟩)]⟩ j)=x:=by
    show qa1 [(0,n,.agg ⟨cs⟩)] j=x;rw[qan,if_pos Q4P,Nat.sub_zero];show cs.getD j undef=x;rw[xL,hj'];rfl
   rw[e1];exact Den1.plain (hcs x (xy hj')))
  refine⟨_,rfl,ρ',ha,hH,?_⟩;have hF:Fil (modH h₂ [(K,⟨true,n,[(0,n,.agg ⟨cs⟩)]⟩)]) K:=⟨_,by
   show(h₂.set K _)[K]?=_;rw[xr (xe.1 h2).1]⟩
  intro r hr';have:=hr' K hF;simp only[den,den2,den1,den0,q4a,this,hρ,xl]
theorem qmt{G:Tys}{g:FuncId}{fn:Func}{c:Code}{V:Value}{h:Hp}(i:Nat)(W:World)(F:List By)(hi:h[i]?=some (some (q3v W F)))(hG:q32 P G)(hm:P.follows .mixedOrders=true)(hf:P.funcs[g]?=some fn)(hb:fn.body=some c)(hW:0<W.heap.size)(hp:vs.all qai=true)(hV:qar V=true)(hr:∀xs w,(callFunc g xs).run P w=.ok (.enter g xs) w)
  (hwp:∀w,Kept W w->initK vs fn.ntmps λt=>wpC P G 1 c (bodyQ P G fn λv st=>N (v=V/\st.h[0]?=some (some (q5j w)))) ⟨t,[some (q5j w)]⟩):qae P g vs h V [] [i]:=
 qf2 i W F hi hp hV hr λw hk=>qms w hG hm hf hb (xh hW hk.1) hp hV (hwp w hk)
theorem q8a(W:World)(hW:TxOK W)(F:List By)(n:Int)(hn:q35 n)(i:Nat)(h:Hp)(hi:h[i]?=some (some (q3v W F))):qae prog 25 [xc n,xc 10] h (.string (q30 n)) [] [i]:=
 qf2 i W F hi rfl rfl (call25) λw hk=>(Tryz.strconv_FormatInt_10 n hn.1 hn.2 w (hW.kept hk).tab).mono λe w' ⟨he,k,os,hw⟩=>⟨he,by subst hw;exact Lib.below_grow _ w (nlr _) k os⟩
theorem qf3(W:World)(hW:TxOK W)(F:List By)(n:Int)(hn:q35 n)(i:Nat)(h:Hp)(hi:h[i]?=some (some (q3v W F))):qae prog 6 [xc n] h (.string (q30 n)) [] [i]:=
 qf2 i W F hi rfl rfl (call6) λw hk=>(Tryz.strconv_Itoa n hn.1 hn.2 w (hW.kept hk).tab).mono λe w' ⟨he,k,os,hw⟩=>⟨he,by subst hw;exact Lib.below_grow _ w (nlr _) k os⟩
theorem jb6(W:World)(hW:TxOK W)(n:Int)(hn:q35 n)(i:Nat)(h:Hp)(hi:h[i]?=some (some (q5j W))):qae prog 6 [xc n] h (.string (q30 n)) [] [i]:=
 qie i W hi rfl rfl (call6) λw hk=>(Tryz.strconv_Itoa n hn.1 hn.2 w (hW.kept hk).tab).mono λe w' ⟨he,k,os,hw⟩=>⟨he,by subst hw;exact Lib.below_grow _ w (nlr _) k os⟩
theorem qub(W:World)(hW:TxOK W)(F:List By)(s:ByteArray)(ls:List ByteArray)(hs:s.size<4294967281)(h1:Lib.countB s ⟨#[32]⟩+1=ls.length)(h2:Lib.splitB ⟨#[32]⟩ 0 (Lib.countB s ⟨#[32]⟩) s=ls)(i K:Nat)(h:Hp)(hi:h[i]?=some (some (q3v W F)))(hK:h[K]?=some none):
  qae prog 14 [.string s,.string ⟨#[32]⟩] h (.slice (some ⟨K,0,some 0⟩) ls.length ls.length) [(K,⟨true,ls.length,[(0,ls.length,.agg ⟨ls.map .string⟩)]⟩)] [i]:=
 qua 9 (ls.map .string) i K W F hi hK rfl Q50 (λc hc=>by
  obtain⟨b,_,rfl⟩:=xx.1 hc;rfl) (call14) λw hk=>by
  obtain⟨m,hm⟩:=(hW.kept hk).len;refine(Tryz.strings_Split s ⟨#[32]⟩ m w hs hm Q4T).mono ?_;rintro e w' ⟨he,hw⟩;rw[h1] at he;rw[h2] at hw;exact⟨he,hw⟩
theorem q06(W:World)(hW:TxOK W)(F:List By)(n:Int)(hn:q35 n)(i:Nat)(h:Hp)(hi:h[i]?=some (some (q3v W F))):qae prog 97 [.string (q30 n),xc 10,xc 64] h (.tuple #[xc n,.nilIface]) [] [i]:=
 qf2 i W F hi rfl rfl (call97) λw hk=>by
  have:=qbr n hn;refine(Tryz.strconv_ParseInt_10_at64_ok (q30 n) Q4P n (Txt.parse_itoa n hn.1 hn.2) w).mono ?_;rintro e w' ⟨he,hw⟩;refine⟨he,?_⟩;rcases hw with rfl|⟨t,rfl⟩
  .exact Below.refl _ _
  .exact Joins.below_bytesWorld _ w _ t (nlr _)
def jb7(W:World):Prop:=∃ev,W.cell? ⟨6,0,none⟩=some ev/\(ev=.nilIface\/∃te pe,ev=.iface te pe)
open Go Go.RowKit Sx
def okB:ByteArray:=⟨#[111,107]⟩
def q7f(e:Int):ByteArray:=⟨#[101,114,114,111,114,32]⟩++q30 e
theorem q07(W:World)(hW:TxOK W)(F:List By)(e:Int)(he:0<e/\e<100)(i:Nat)(h:Hp)(hi:h[i]?=some (some (q3v W F))):qae prog 13 [xc e] h (.string (q7f e)) [] [i]:=by
 have hf:q35 e:=⟨by omega,by omega⟩;have hl:=qbr e hf;have h6:(ByteArray.mk #[101,114,114,111,114,32]).size=6:=rfl;refine qmt i W F hi tysOK mixed func13 Q4R hW.pos rfl rfl (call13) λw hk=>?_
 repeat' (refine Ba ?_;first|refine Q2J ?_|refine Be (kN Q4P) ?_|refine Bc (jb6 w (hW.kept hk) e hf 0 _ Q4R) ?_|refine Bm _ (qif _ _ _ _ (by rw[h6];omega)) ?_|exact N.mk ⟨rfl,rfl⟩|fail)
theorem quc(w:World):xa 13 #[xc 0] w (.string okB):=by
 refine qah (G:=tys) w tysOK mixed func13 Q4R rfl rfl ?_;repeat' (refine Ba ?_;first|refine Q2J ?_|refine Q2T ?_|fail)
 all_goals rfl
theorem qxc(h:Hp):qae prog 13 [xc 0] h (.string okB) [] []:=qaj rfl rfl (call13 _) quc
abbrev rsC(o:Bool)(cap:Nat)(S:Nat->ByteArray):Chunk:=⟨o,cap,[(0,cap,.agg ⟨segL cap λj=>.string (S j)⟩)]⟩
abbrev wdC(o:Bool)(k p n c:Nat)(b:Bool):Chunk:=⟨o,2,[(0,2,.agg ⟨[.slice (some ⟨k,p,some 1⟩) n c,.bool b]⟩)]⟩
variable{S:Nat->ByteArray}
theorem qd9{o:Bool}{cap j:Nat}(h:j<cap):(rsC o cap S).f j=.string (S j):=by
 refine Q1b ?_;exact qdf h
theorem q8b{ix:Lz}{o o':Bool}{cap:Nat}:∀j,j<cap->Re1 ix ((rsC o cap S).f j) ((rsC o' cap S).f j):=λj hj=>by
 rw[qd9 hj,qd9 hj];exact .plain rfl
theorem q8c{o:Bool}{cap j p:Nat}(h:j<cap)(hp:p=j):Reads (rsC o cap S) p false 1 (.string (S j)):=by
 subst hp;exact⟨h,rfl,qd9 h⟩
theorem q3d(x:Operand):BinIs prog .neq 169 x (.const .nilIface) .nilIface .nilIface (.bool false):=⟨rfl,rfl,rfl,λw=>by go_simp⟩
theorem qxd(x y:Operand)(a:ByteArray):BinIs prog .neq 9 x y (.string a) (.string a) (.bool false):=⟨rfl,rfl,rfl,λw=>by go_simp⟩
def nxt(p:Nat):Nat->Nat
 | 0=>p
 | _+1=>p+1
theorem q3e(S:Nat->ByteArray)(cap k p n c:Nat)(b:Bool)(hp:p<cap)(hn:n<=c)(i:Nat)(hik:i≠k)(o:Bool)(h:Hp)(hi:h[i]?=some (some (wdC true k p (n+1) (c+1) b)))(hk:h[k]?=some (some (rsC o cap S))):
  qae prog 72 [xd i] h (.string (S p)) [(i,wdC true k (nxt p c) n c b)] [k]:=by
 rcases p with _|q<;>rcases c with _|e
 .refine qau (G:=tys) [⟨i,_,wdC true 1 0 (n+1) (0+1) b,wdC true k (nxt 0 0) n 0 b⟩,⟨k,_,rsC false cap S,⟨false,0,[]⟩⟩] [] [xd 0] tysOK mixed func72 Q4R (call72) ⟨hi,hk,xb⟩ ⟨Q3Q,Q3T,xb⟩ Q5X xb ⟨.ptr rfl,xb⟩ ?_;exact Q0a
 .refine qau (G:=tys) [⟨i,_,wdC true 1 0 (n+1) ((e+1)+1) b,wdC true k (nxt 0 (e+1)) n (e+1) b⟩,⟨k,_,rsC false cap S,⟨false,0,[]⟩⟩] [] [xd 0] tysOK mixed func72 Q4R (call72) ⟨hi,hk,xb⟩ ⟨Q3Q,Q3T,xb⟩ Q5X xb ⟨.ptr rfl,xb⟩ ?_;exact Q0a
 .refine qau (G:=tys) [⟨i,_,wdC true 1 (q+1) (n+1) (0+1) b,wdC true k (nxt (q+1) 0) n 0 b⟩,⟨k,_,rsC false cap S,⟨false,0,[]⟩⟩] [] [xd 0] tysOK mixed func72 Q4R (call72) ⟨hi,hk,xb⟩ ⟨Q3Q,Q3T,xb⟩ Q5X xb ⟨.ptr rfl,xb⟩ ?_;exact Q0a
 .refine qau (G:=tys) [⟨i,_,wdC true 1 (q+1) (n+1) ((e+1)+1) b,wdC true k (nxt (q+1) (e+1)) n (e+1) b⟩,⟨k,_,rsC false cap S,⟨false,0,[]⟩⟩] [] [xd 0] tysOK mixed func72 Q4R (call72) ⟨hi,hk,xb⟩ ⟨Q3Q,Q3T,xb⟩ Q5X xb ⟨.ptr rfl,xb⟩ ?_;exact Q0a
theorem q8d(W:World)(hW:TxOK W)(F:List By)(S:Nat->ByteArray)(cap k p n c:Nat)(hp:p<cap)(hn:n<=c)(x:Int)(hx:q35 x)(hS:S p=q30 x)(i m:Nat)(hik:i≠k)(him:i≠m)(hkm:k≠m)(o:Bool)(h:Hp)(hi:h[i]?=some (some (wdC true k p (n+1) (c+1) false)))(hk:h[k]?=some (some (rsC o cap S)))(hm:h[m]?=some (some (q3v W F))):
  qae prog 69 [xd i] h (xc x) [(i,wdC true k (nxt p c) n c false),(m,q3v W F)] [k]:=by
 .refine qay (G:=tys) (λ_:Unit=>True) (λ_=>_) [⟨i,_,wdC true 1 p (n+1) (c+1) false,wdC true k (nxt p c) n c false⟩,⟨k,_,rsC false cap S,⟨false,0,[]⟩⟩,⟨m,q3v W F,q3v W F,q3v W F⟩] [] [xd 0] tysOK mixed func69 Q4R (call69) ⟨hi,hk,hm,xb⟩ ⟨Q3Q,Q3T,Q3P,xb⟩ Q5Y Q4C xb ⟨.ptr rfl,xb⟩ Opens.same ?_;rintro⟨⟩ -;repeat' (refine Ba ?_;first|refine Q2J ?_|refine Bc (q3e S cap 1 p n c false hp hn 0 Q4T false _ Q4R Q4R) ?_;rw[hS]|refine Bc (q06 W hW F x hx 2 _ Q4R) ?_|refine Bc (q8a W hW F x hx 2 _ Q4R) ?_|refine Bm _ (q3d _) ?_|refine Bm _ (qxd _ _ _) ?_|fail)
  exact Q0r
theorem q9q(W:World)(hW:TxOK W)(F:List By)(S:Nat->ByteArray)(cap k p n c:Nat)(hp:p<cap)(hn:n<=c)(x:Int)(hx:q35 x)(hS:S p=q30 x)(i m:Nat)(hik:i≠k)(him:i≠m)(hkm:k≠m)(o:Bool)(h:Hp)(hi:h[i]?=some (some (wdC true k p (n+1) (c+1) false)))(hk:h[k]?=some (some (rsC o cap S)))(hm:h[m]?=some (some (q3v W F))):
  qae prog 31 [xd i] h (xc x) [(i,wdC true k (nxt p c) n c false),(m,q3v W F)] [k]:=by
 .refine qay (G:=tys) (λ_:Unit=>True) (λ_=>_) [⟨i,_,wdC true 1 p (n+1) (c+1) false,wdC true k (nxt p c) n c false⟩,⟨k,_,rsC false cap S,⟨false,0,[]⟩⟩,⟨m,q3v W F,q3v W F,q3v W F⟩] [] [xd 0] tysOK mixed func31 Q4R (call31) ⟨hi,hk,hm,xb⟩ ⟨Q3Q,Q3T,Q3P,xb⟩ Q5Y Q4C xb ⟨.ptr rfl,xb⟩ Opens.same ?_;rintro⟨⟩ -;repeat' (refine Ba ?_;first|refine Q2J ?_|refine Bc (q8d W hW F S cap 1 p n c hp hn x hx hS 0 2 Q4T Q4T Q4T false _ Q4R Q4R Q4R) ?_|fail)
  exact Q0r
theorem q9r(S:Nat->ByteArray)(cap k p n c:Nat)(b:Bool)(i:Nat)(o:Bool)(h:Hp)(hi:h[i]?=some (some (wdC true k p n c b)))(hk:h[k]?=some (some (rsC o cap S))):
  qae prog 70 [xd i] h (.bool (!b&&n==0)) [] [i,k]:=by
 rcases b<;>rcases n with _|n
 .refine qau (G:=tys) [⟨i,_,wdC false 1 p 0 c false,⟨false,0,[]⟩⟩,⟨k,_,rsC false cap S,⟨false,0,[]⟩⟩] [] [xd 0] tysOK mixed func70 Q4R (call70) ⟨hi,hk,xb⟩ ⟨Q3O,Q3T,xb⟩ Q55 xb ⟨.ptr rfl,xb⟩ ?_;exact Q0c
 .refine qau (G:=tys) [⟨i,_,wdC false 1 p (n+1) c false,⟨false,0,[]⟩⟩,⟨k,_,rsC false cap S,⟨false,0,[]⟩⟩] [] [xd 0] tysOK mixed func70 Q4R (call70) ⟨hi,hk,xb⟩ ⟨Q3O,Q3T,xb⟩ Q55 xb ⟨.ptr rfl,xb⟩ ?_;exact Q0c
 .refine qau (G:=tys) [⟨i,_,wdC false 1 p 0 c true,⟨false,0,[]⟩⟩,⟨k,_,rsC false cap S,⟨false,0,[]⟩⟩] [] [xd 0] tysOK mixed func70 Q4R (call70) ⟨hi,hk,xb⟩ ⟨Q3O,Q3T,xb⟩ Q55 xb ⟨.ptr rfl,xb⟩ ?_;exact Q0c
 .refine qau (G:=tys) [⟨i,_,wdC false 1 p (n+1) c true,⟨false,0,[]⟩⟩,⟨k,_,rsC false cap S,⟨false,0,[]⟩⟩] [] [xd 0] tysOK mixed func70 Q4R (call70) ⟨hi,hk,xb⟩ ⟨Q3O,Q3T,xb⟩ Q55 xb ⟨.ptr rfl,xb⟩ ?_;exact Q0c
open Go Go.RowKit Sx
abbrev cfF:Nat->Int:=λk=>match k with
 | 0=>5 | 1=>4 | 2=>10 | 3=>2 | 4=>1 | 5=>10 | 6=>50 | 7=>200 | 8=>5 | 9=>6 | _=>1000000000000
theorem qud:q7a cfF:=⟨by decide,by decide,by decide,by decide,rfl,by decide,rfl,by decide,by decide,by decide,by decide⟩
theorem q08:q7b cfF:=by
 unfold q7b;exact⟨by decide,by decide,by decide,by decide,by decide,by decide,by decide,by decide,by decide,by decide⟩
abbrev cnC(o:Bool)(j:Nat):Chunk:=⟨o,2,[(0,2,.agg ⟨[xd j,xc 5]⟩)]⟩
abbrev ftF(g:Rz):FS:=⟨cfF,5,q4s,λ_=>false,0,0,[],g,q33 cfF,λ_=>true,0⟩
theorem q09(w:World):xa 10 #[] w (cfV cfF):=by
 refine qah (G:=tys) w tysOK mixed func10 Q4R Q4R Q4R ?_;repeat' (refine Ba ?_;first|refine Q2J ?_|refine Q2W ?_|fail)
 all_goals rfl
theorem q3f(h:Hp):qae prog 10 [] h (cfV cfF) [] []:=qaj rfl rfl (call10 _) q09
theorem que(K1 K2:Nat)(hKK:K1≠K2)(h:Hp)(hK1:h[K1]?=some none)(hK2:h[K2]?=some none):
  CallAll prog 5 [] h λv ms=>∃g:Rz,v=xd K1/\ms=[(K1,cnC true K2),(K2,flP (ftF g))]:=by
 have key:=qaq (G:=tys) (h:=h) (vs:=[]) (λ_:Unit=>True) (λ_=>[]) (α:=Nat->Nat×Nat) (λκ=>True) (λκ=>xd K1) [] (λκ=>[]) (λκ=>[⟨K1,7,cnC true K2⟩,⟨K2,5,flP (ftF κ)⟩]) [] tysOK mixed func5 Q4R (call5) xb xb (λκ _=>trivial) xb xb (λκ _=>⟨⟨hK1,rfl,.inl (by show 0<2;decide),by simp[hKK]⟩,⟨hK2,rfl,.inr qao,by simp⟩,xb⟩) xb Opens.same ?_
 .exact Q2l
 rintro⟨⟩ -
 repeat' (refine Ba ?_;first|refine Q2J ?_|refine Bc (q3f _) ?_|fail)
 refine Ba ?_
 refine Bg (q3a cfF qud q08 5 rfl Q4T Q4T 5 6 Q4T _ Q4R Q4R) λv ms hR=>?_
 obtain⟨g,rfl,rfl⟩:=hR
 repeat' (refine Ba ?_;first|refine Q2J ?_|refine Q2W ?_|fail)
 refine Ba ?_
 refine Bj ?_
 refine Bh g ⟨xb,?_⟩
 refine Bb (.one (.ptr rfl)) ?_
 refine Bb xb ?_
 refine Bb ⟨⟨xo _,Q3S⟩,⟨xo _,Q3R⟩,xb⟩ ?_
 refine Bb ⟨xb,Q4u⟩ ?_
 exact Bd
end Go.Proofs.YtggfpcfkbilkmaaGreatDoor


namespace Go.Proofs.YtggfpcfkbilkmaaGreatDoor.Txt
open Go Go.Lib
theorem nd_le:∀(k u:Nat),u<10^(k+1)->nDigits u<=k+1
 | 0,u,h=>by rw[nDigits_small Q5J];exact nlr _
 | k+1,u,h=>by
  by_cases h1:u<10
  .rw[nDigits_small h1];omega
  .rw[nDigits_big h1];have:=nd_le k (u / 10) (by rw[yJ] at h;omega);omega
def jb8(c:UInt8):Bool:=c==44||c==47
def q7p:List UInt8->List (List UInt8)
 | []=>[[]]
 | c::r=>if jb8 c=true then []::q7p r else match q7p r with
  | p::ps=>(c::p)::ps
  | []=>[[c]]
def pre(cur:List UInt8):List (List UInt8)->List (List UInt8)
 | p::ps=>(cur++p)::ps
 | []=>[cur]
end Go.Proofs.YtggfpcfkbilkmaaGreatDoor.Txt


namespace Go.Proofs.YtggfpcfkbilkmaaGreatDoor
open Go Go.RowKit Sx
theorem N.bndT{lo hi:Option Value}{len cap:Nat}{K:Nat->Nat->Nat->Prop}(p q s:Nat)(h1:Bnd hi len cap q)(h2:Bnd lo 0 q p)(k:K p q s):N (q8o lo hi len cap K):=N.mk ⟨p,q,s,h1,h2,k⟩
theorem N.lenS{t ty:TypeId}{s:ByteArray}{K:Value->Prop}(ht:prog.underlying t=some .string)(h:K (xc (s.size:Nat))):N (qn4 prog .len #[t] ty [.string s] K):=by
 refine N.mk ⟨xc (s.size:Nat),⟨rfl,rfl,λcs w=>?_⟩,h⟩;show(do pure (Next.value (<-Builtin.len_ #[t] ty #[.string s])):Sem _).run prog w=_;rw[Sem.run_bind,run_len_string w t ty s ht];rfl
theorem qbd(x y:Operand)(a b:ByteArray):BinIs prog .eql 9 x y (.string a) (.string b) (.bool (decide (a=b))):=⟨rfl,rfl,rfl,λw=>by
 by_cases h:a=b
 .subst h;rw[xg rfl];go_simp
 .rw[xj h];go_simp;rw[ByteArray.toList_eq,ByteArray.toList_eq];exact λe=>h (ByteArray.ext (xw.1 e))⟩
theorem qgm(x y:Operand)(a b:ByteArray):BinIs prog .neq 9 x y (.string a) (.string b) (.bool (!decide (a=b))):=⟨rfl,rfl,rfl,λw=>by
 by_cases h:a=b
 .subst h;rw[xg rfl];go_simp
 .rw[xj h];go_simp;rw[ByteArray.toList_eq,ByteArray.toList_eq];exact λe=>h (ByteArray.ext (xw.1 e))⟩
end Go.Proofs.YtggfpcfkbilkmaaGreatDoor
