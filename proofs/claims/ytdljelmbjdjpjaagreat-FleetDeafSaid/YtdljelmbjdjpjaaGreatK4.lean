/-
  The walk of All: all entries, by their nodes.
-/
import Derived.Test.YtdljelmbjdjpjaaGreatRows
import Derived.Laws.Rows
import Derived.StillTailTactics
import Derived.Laws.CopyOwn
import Derived.Shelf.Small.Bits
import Derived.Shelf.Strconv.Itoa0
import Derived.Shelf.Bits.Mul64
import Derived.Laws.Externs
import Derived.Shelf.Spec.BitsCarry
import Derived.WalkKit
import Derived.Test.YtdljelmbjdjpjaaGreatProg
import Derived.BigQuiet
import Derived.Deep.QuietTactic
import Derived.Deep.RegionHeld3
import Derived.Lib.EndianBits
import Derived.IntWalk
import Derived.Test.YtdljelmbjdjpjaaGreatK3
set_option linter.unusedVariables false
set_option linter.unusedSimpArgs false
set_option maxRecDepth 100000
set_option maxHeartbeats 20000000

namespace Go.Proofs.YtdljelmbjdjpjaaGreat
open Go Go.RowKit Sx
def encell (x:Ent):Nat→Value
 | 0=>.int .i64 x.node
 | 1=>.int .i64 x.boot
 | 2=>.int .i64 x.heard
 | 3=>.bool x.has
 | 4=>.int .i64 x.x
 | 5=>.int .i64 x.y
 | 6=>.int .i64 x.a
 | 7=>.int .i64 x.b
 | 8=>.int .i64 x.d
 | _=>.int .i64 x.when_
theorem qhf (x:Ent) (k:Nat):qa3 (encell x k)=true:=by unfold encell;split<;>rfl
theorem qmy (x:Ent) {k:Nat} (h:k<10):cellIn (entV x) k=encell x k:=by
 match k,h with
 | 0,_=>rfl
 | 1,_=>rfl
 | 2,_=>rfl
 | 3,_=>rfl
 | 4,_=>rfl
 | 5,_=>rfl
 | 6,_=>rfl
 | 7,_=>rfl
 | 8,_=>rfl
 | 9,_=>rfl
theorem qnz (j:Nat):repZ 10 (entV Ent.zero) j=encell (Ent.zero) (j%10):=by
 unfold repZ
 have h:j%10<10:=Nat.mod_lt _ (by decide)
 generalize j%10=k at h
 match k,h with
 | 0,_=>rfl
 | 1,_=>rfl
 | 2,_=>rfl
 | 3,_=>rfl
 | 4,_=>rfl
 | 5,_=>rfl
 | 6,_=>rfl
 | 7,_=>rfl
 | 8,_=>rfl
 | 9,_=>rfl
abbrev enC (o:Bool) (c:Nat) (T:Nat→Ent):Chunk:=⟨o,c*10,[(0,c*10,.agg ⟨segL (c*10) (fun j=>encell (T (j / 10)) (j%10))⟩)]⟩
theorem enC_f {o:Bool} {c j:Nat} {T:Nat→Ent} (h:j<c*10):(enC o c T).f j=encell (T (j / 10)) (j%10):=qaq h
theorem q0d {ix:List (Nat×Nat)} {o o':Bool} {c:Nat} {T T':Nat→Ent} (h:∀ i,i<c→T i=T' i):qb2 ix (enC o c T) (enC o' c T'):=fun j hj=>by
 have hj:j<c*10:=hj
 rw[qaq hj,qaq hj,h (j / 10) (by omega)];exact .plain (qhf _ _)
theorem qxe {ix:List (Nat×Nat)} {c:Nat} {T T':Nat→Ent} {hp:Hp} {n:Nat} (h:∀ i,i<c→T i=T' i) (hh:hp[n]?=some (some (enC true c T'))):PostC ix hp n (enC true c T):=⟨_,hh,id,nlr _,q0d h⟩
theorem q1n {ix:List (Nat×Nat)} {c:Nat} {T T':Nat→Ent} (h:∀ i,i<c→T i=T' i):ChunkReLe ix (enC true c T) (enC true c T'):=⟨id,nlr _,q0d h⟩
def seten (T:Nat→Ent) (l:Nat) (x:Ent) (i:Nat):Ent:=if i=l then x else T i
theorem wr_en {c l p:Nat} {T:Nat→Ent} {x:Ent} (h:l<c) (e:p=l*10):Writes (enC true c T) p (1*10) (entV x) (enC true c (seten T l x)):=by
 subst e
 refine⟨rfl,by show l*10+1*10≤c*10;omega,rfl,fun j hj=>?_⟩
 have hj:j<c*10:=hj
 rw[qaq hj,qaq hj]
 unfold seten
 by_cases e:l*10≤j∧j<l*10+1*10
 ·rw[if_pos e,if_pos (by omega),qmy _ (by omega)]
  congr 1;omega
 ·rw[if_neg e,if_neg (by omega)]
def growen (T:Nat→Ent) (l:Nat) (x:Ent) (i:Nat):Ent:=if i<l then T i else if i=l then x else Ent.zero
theorem qxf {ci:Chunk} {l cap:Nat} {T:Nat→Ent} {x:Ent} (h:l<cap) (hc:∀ j,j<l*10→ci.f j=encell (T (j / 10)) (j%10)) {j:Nat} (hj:j<cap*10):(grown ci l 1 10 (entV x) (entV Ent.zero) cap).f j=encell (growen T l x (j / 10)) (j%10):=by
 unfold growen
 by_cases h1:j<l*10
 ·rw[qeo h1,if_pos (by omega)];exact hc j h1
 ·rw[if_neg (by omega)]
  by_cases h2:j<(l+1)*10
  ·have:=qep (ci:=ci) (l:=l) (m:=1) (size:=10) (cap:=cap) (v:=entV x) (z:=entV Ent.zero) (j:=j-l*10) (by omega)
   rw[show l*10+(j-l*10)=j from by omega] at this
   rw[this,if_pos (by omega),qmy _ (by omega)]
   congr 1;omega
  ·rw[qd4 (by omega) hj,if_neg (by omega)];exact qnz j
theorem qih {ix:List (Nat×Nat)} {ci:Chunk} {l cap:Nat} {T T':Nat→Ent} {x:Ent} (h:l<cap) (hc:∀ j,j<l*10→ci.f j=encell (T (j / 10)) (j%10)) (he:∀ i,i<cap→T' i=growen T l x i):ChunkReLe ix (enC true cap T') (grown ci l 1 10 (entV x) (entV Ent.zero) cap):=
 ⟨fun _=>rfl,by show cap*10≤cap*10;omega,fun j hj=>by
  have hj:j<cap*10:=hj
  rw[qaq hj,qxf h hc hj,he _ (by omega)];exact .plain (qhf _ _)⟩
def entT (E:List (Int×Ent)) (i:Nat):Ent:=match (sortK E)[i]? with
 | some k=>(dGet E k).getD Ent.zero
 | none=>Ent.zero
theorem qtx {E:List (Int×Ent)} {i:Nat} {k:Int} {e:Ent} (h:(sortK E)[i]?=some k) (he:dGet E k=some e):entT E i=e:=by
 unfold entT;rw[h];simp only[he];rfl
theorem qmz {E:List (Int×Ent)} {i:Nat} (h:i<E.length):∃ k,(sortK E)[i]?=some k∧∃ e,(k,e)∈E:=by
 have hl:i<(sortK E).length:=by rw[qmw];exact h
 refine⟨(sortK E)[i],by simp[hl],?_⟩
 have:(sortK E)[i]∈E.map (·.1):=(qrd E).mem_iff.1 (List.getElem_mem hl)
 obtain⟨q,hq,e⟩:=List.mem_map.1 this
 exact⟨q.2,by rw[←e];exact hq⟩
theorem qpy {α:Type} {E:List (Int×α)} {k:Int} {e:α} (h:(k,e)∈E):∃ e',dGet E k=some e':=by
 cases hg:dGet E k with
 | some e'=>exact⟨e',rfl⟩
 | none=>exact absurd rfl (dGet_none.1 hg _ h)
abbrev mainG (x:Ext) (o:Bool) (most:Int) (i j:Nat):Chunk:=@Chunk.mk x o 3 [(0,3,.agg ⟨[.int .i64 most,.map (some i),.map (some j)]⟩)]
abbrev main2 (most:Int):Chunk:=⟨false,2,[(0,2,.agg ⟨[.int .i64 most,.map (some 1)]⟩)]⟩
theorem qpz {ix:List (Nat×Nat)} {x:Ext} {o:Bool} {most:Int} {i j:Nat} (hi:ixK ix 1=some i):qb2 ix (mainG x o most i j) (main2 most):=fun l hl=>by
 match l,hl with
 | 0,_=>exact .plain rfl
 | 1,_=>exact .map hi
theorem q0e {ix:List (Nat×Nat)} {α:Type} {enc:α→Value} {D D':List (Int×α)}:qb2 ix (mapC enc D) (mapC enc D'):=nzj
theorem qp0 {ix:List (Nat×Nat)} {α:Type} {enc:α→Value} {D:List (Int×α)} {h:Hp} {k:Nat} (hh:h[k]?=some (some (mapC enc D))):PostC ix h k (mapC enc D):=⟨_,hh,id,nlr _,nzj⟩
def allR (E:List (Int×Ent)) (k:Nat) (pre:List (Nat×Chunk)) (v:Value) (ms:List (Nat×Chunk)):Prop:=
 (E=[]∧v=.slice none 0 0∧ms=pre)∨∃ cap,0<E.length∧E.length≤cap∧v=.slice (some ⟨k,0,some 0⟩) E.length cap∧ms=pre++[(k,enC true cap (fun i=>if i<E.length then entT E i else Ent.zero))]
theorem re_eq {ix:List (Nat×Nat)} {v u:Value} (h:v=u) (hp:qap v=true):Re ix v u:=by subst h;exact .plain hp
theorem q0f {k:IntKind} {a b:Int} (h:a=b):Value.int k a=.int k b:=by rw[h]
def allF (E:List (Int×Ent)) (r i:Nat):Ent:=if i<r then entT E i else Ent.zero
theorem q1o {P:Program} {G:Tys} {n0:Nat} {c:Code} {A:(Exit→St→Prop)→St→Prop} {Q:Exit→St→Prop} {t:List (Option Value)} {h:Hp} (mk:Nat) (hw:updK mk [] t 0 fun t'=>wkK n0 ⟨t,h⟩ ⟨t',h⟩ (N True)) (k:updK mk [] t 0 fun t'=>N (LoopN P G n0 c A Q ⟨t',h⟩)):N (LoopN P G n0 c A Q ⟨t,h⟩):=by
 have h1:=(qta (updK_iff.1 hw)).1
 obtain⟨α,mk',inv,μ,nx,p1,⟨x,p2,p3⟩,p4⟩:=(updK_iff.1 k).out
 exact N.mk ⟨α,mk',inv,μ,nx,p1,⟨x,p2,fun X ρ a w hn R=>p3 X ρ a w hn (by subst hn;exact h1.rel R)⟩,p4⟩
theorem qty {l:List Int} {p n:Nat} {x:Int} (i:Nat) (hn:n=1) (h:l[i]?=some x) (e:p=i*1):Reads (intsC l) p false n (.int .i64 x):=by
 subst e hn
 have hl:=(List.getElem?_eq_some_iff.1 h).1
 exact⟨by show i*1<l.length;omega,rfl,by rw[Nat.mul_one];exact qnx h⟩
theorem q0g {o:Bool} {n m:Nat} {l:List Value} (hl:l.length=n) (hm:m=n):Reads ⟨o,n,[(0,n,.agg ⟨l⟩)]⟩ 0 true m (.agg ⟨l⟩):=by
 subst hm
 refine⟨by show 0+m≤m;omega,_,rfl,hl,fun j hj=>?_⟩
 show qa5 [(0,m,.agg ⟨l⟩)] (0+j)=_
 rw[qao,if_pos (by omega)]
 simp[cellIn]
theorem q1p {cj:Chunk} {g m size bytes:Nat} {z:Value} {slot:Nat} {K:Value→List (Nat×Chunk)→Prop} (v:Value) (hr:Reads cj g true (m*size) v) (h0:0<m) (h1:m≤9223372036854775807) (h2:m*bytes≤140737488355328)
  (k:∀ cap,m≤cap→K (.slice (some ⟨slot,0,some 0⟩) m cap) [(slot,grown ⟨true,0,[]⟩ 0 m size v z cap)]):N (App0N cj g m size bytes z slot K):=N.mk (.inl ⟨v,hr,h0,h1,h2,k⟩)
theorem q31 {ci:Chunk} {k s l c:Nat} {cj:Chunk} {g m size bytes:Nat} {z:Value} {slot:Nat} {K:Value→List (Nat×Chunk)→Prop} (v:Value) (hr:Reads cj g true (m*size) v) (hf:flatB v (m*size)=true) (hl:l*size≤ci.n) (h1:l+m≤9223372036854775807) (h2:(l+m)*bytes≤140737488355328)
  (d:Chunk) (hw:l+m≤c→Writes ci (l*size) (m*size) v d) (k1:l+m≤c→K (.slice (some ⟨k,0,some s⟩) (l+m) c) [(k,d)]) (k2:c<l+m→∀ cap,l+m≤cap→K (.slice (some ⟨slot,0,some 0⟩) (l+m) cap) [(slot,grown ci l m size v z cap)]):N (AppN ci k s l c cj g m size bytes z slot K):=
 N.mk ⟨v,hr,hf,hl,h1,h2,fun h=>⟨d,hw h,k1 h⟩,k2⟩
theorem qga {ix:List (Nat×Nat)} {most:Int} (h1:ixK ix 1=some 1):ChunkReLe ix (main2 most) (main2 most):=⟨id,nlr _,fun j hj=>by
 match j,hj with
 | 0,_=>exact .plain rfl
 | 1,_=>exact .map h1⟩
theorem qkx {ix:List (Nat×Nat)} {α:Type} {enc:α→Value} {D:List (Int×α)}:ChunkReLe ix (mapC enc D) (mapC enc D):=⟨id,nlr _,nzj⟩
theorem qky {ix:List (Nat×Nat)} (h1:ixK ix 1=some 1):ChunkReLe ix (keyC 1) (keyC 1):=⟨id,nlr _,fun j hj=>by
 match j,hj with
 | 0,_=>exact .map h1⟩
theorem qhs {ix:List (Nat×Nat)} {l:List Int}:ChunkReLe ix (intsC l) (intsC l):=⟨id,nlr _,fun j hj=>by
 have hj:j<l.length:=hj
 have e:l[j]?=some l[j]:=by simp[hj]
 rw[qnx e];exact .plain rfl⟩
theorem qae {P:Program} {g:FuncId} {vs:List Value} {h:Hp} {R R':Value→List (Nat×Chunk)→Prop} (hc:CallAll P g vs h R) (hr:∀ v ms,R v ms→R' v ms):CallAll P g vs h R':=fun X ρ w xs H hx=>by
 rcases hc X ρ w xs H hx with ⟨x,w',h1,v,ms,ρ',h2,h3⟩|⟨h1,h2⟩
 ·exact .inl ⟨x,w',h1,v,ms,ρ',hr _ _ h2,h3⟩
 ·refine .inr ⟨h1,h2.mono ?_⟩
  rintro e w' ⟨x,he,v,ms,ρ',h3,h4⟩
  exact⟨x,he,v,ms,ρ',hr _ _ h3,h4⟩
theorem cAllI (x:Ext) (o:Bool) (most:Int) (E:List (Int×Ent)) (hE:E.length≤64) (i i1 i2 K:Nat) (h:Hp) (hi:h[i]?=some (some (mainG x o most i1 i2))) (h1:h[i1]?=some (some (mapC entV E))) (hii:i≠i1) (hK:h[K]?=some none) :
  CallAll Tryz.prog 34 [.pointer (some ⟨i,0,some 0⟩)] h (allR E K [(i1,mapC entV E)]):=by
 have key:=qaj (G:=tys) (h:=h) (vs:=[.pointer (some ⟨i,0,some 0⟩)]) (fun _:Unit=>True) (fun _=>_) (α:=Option Nat) (fun κ=>match κ with|none=>E=[]|some cap=>0<E.length∧E.length≤cap) (fun κ=>match κ with|none=>.slice none 0 0|some cap=>.slice (some ⟨K,0,some 0⟩) E.length cap) [⟨i,_,main2 most,noC⟩,⟨i1,mapC entV E,mapC entV E,mapC entV E⟩] (fun _=>[noC,mapC entV E])
  (fun κ=>match κ with|none=>[]|some cap=>[⟨K,7,enC true cap (fun i=>if i<E.length then entT E i else Ent.zero)⟩]) [.pointer (some ⟨0,0,some 0⟩)] tysOK mixed Tryz.func34 (by rfl) (Tryz.call34) ⟨hi,h1,trivial⟩ ⟨⟨fun h=>(by cases h),by show 2≤3;decide,qpz (by rfl)⟩,⟨fun h=>⟨rfl,nlr _⟩,nlr _,q0e⟩,trivial⟩ (fun κ _=>⟨⟨fun h=>(by cases h),by show 2≤3;decide,qpz (by rfl)⟩,⟨fun h=>⟨rfl,nlr _⟩,nlr _,q0e⟩,trivial⟩) (by simp[Apart,hii]) ⟨.inl rfl,.inr ⟨rfl,rfl⟩,trivial⟩ (fun κ hκ=>by
   cases κ with
   | none=>exact trivial
   | some cap=>exact⟨⟨hK,rfl,.inl (by show 0<cap*10;have:=hκ.1;have:=hκ.2;omega),by simp⟩,trivial⟩) ⟨.ptr rfl,trivial⟩ Opens.same ?_
 ·refine qae key fun v ms hR=>?_
  obtain⟨κ,hκ,rfl,rfl⟩:=hR
  cases κ with
  | none=>exact .inl ⟨hκ,rfl,rfl⟩
  | some cap=>exact .inr ⟨cap,hκ.1,hκ.2,rfl,rfl⟩
 rintro⟨⟩ -
 repeat' (refine N.go ?_;first|with_reducible refine N.forkF ?_|refine N.call (q0b 1 2 _ _ (by rfl) (by rfl)) ?_|fail)
 refine N.go ?_
 refine N.callAll (qpw E 1 2 6 _ _ (by rfl) rfl (by rfl) (by rfl) (by omega)) fun v ms hR=>?_
 rcases hR with ⟨hE0,rfl,rfl⟩|⟨kc,hpos,hkc,rfl,rfl⟩
 ·skip
  refine N.go ?_
  refine N.roll 1 ?_
  repeat' (refine N.go ?_;first|refine N.forkNo (by rw[decide_eq_false_iff_not];omega) ?_|fail)
  refine N.go ?_
  refine N.endSame ?_
  refine N.some none ⟨hE0,?_⟩
  refine N.obl (.plain rfl) ?_
  refine N.obl ⟨qp0 (by rfl),trivial⟩ ?_
  refine N.obl trivial ?_
  refine N.obl ⟨⟨.inl rfl,.inr ⟨_,rfl,rfl⟩,trivial⟩,trivial⟩ ?_
  exact N.true
 ·skip
  refine N.go ?_
  refine q1o 4096 ?_ ?_
  ·repeat' (refine N.go ?_;first|with_reducible refine N.obl rfl ?_|exact N.true|with_reducible refine N.obl (ChunkLe.refl _) ?_|fail)
  refine N.go ?_
  refine N.loopR (α:=Option (Nat×Nat)) (fun x=>match x with|none=>True|some q=>1≤q.1∧q.1≤E.length∧q.1≤q.2) (fun x=>match x with|none=>E.length|some q=>E.length-q.1) (fun x=>match x with|none=>[(15,.int .i64 0),(3,.slice none 0 0)]|some q=>[(15,.int .i64 (q.1:Int)),(3,.slice (some ⟨7,0,some 0⟩) q.1 q.2)]) (fun x=>match x with|none=>[]|some q=>[(7,enC true q.2 (allF E q.1))]) none [(0,0),(1,1),(2,2),(6,6)] trivial ?_ ?_
  ·repeat' (refine N.go ?_;first|exact N.true|refine N.obl (qga (by rfl)) ?_|refine N.obl qkx ?_|refine N.obl (qky (by rfl)) ?_|refine N.obl qhs ?_|refine N.obl (.plain (by rfl)) ?_|refine N.obl (.one (.ptr rfl)) ?_|refine N.obl (.one (.map rfl)) ?_|refine N.obl (.one (.slice rfl)) ?_|fail)
  ·intro x hx
   cases x with
   | none=>
    obtain⟨k0,hk0,e0,he0⟩:=qmz (E:=E) (i:=0) hpos
    obtain⟨e1,hg⟩:=qpy he0
    repeat' (refine N.go ?_;first|refine N.forkYes (by rw[decide_eq_true_eq];omega) ?_|fail)
    refine N.go ?_
    refine N.idx 0 1 rfl hpos ?_
    repeat' (refine N.go ?_;first|with_reducible refine N.alt ?_|refine N.load _ (qty 0 rfl hk0 rfl) ?_|refine qz8 entV E rfl Tryz.underlying124 Tryz.underlying3 Tryz.type85 rfl (entV e1) (by rw[hg];rfl) rfl ?_|fail)
    refine N.go ?_
    refine q1p (entV e1) (q0g (by rfl) (by rfl)) (by decide) (by decide) (by decide) fun cap hcap=>?_
    skip
    refine N.go ?_
    refine N.nextR (some (1,cap)) [(0,0),(1,1),(2,2),(6,6),(8,7)] ⟨⟨nlr _,hpos,hcap⟩,by show E.length-1<E.length;omega⟩ ?_
    have hgr:∀ i,i<cap→allF E 1 i=growen (fun _=>Ent.zero) 0 e1 i:=fun i _=>by
     unfold allF growen
     by_cases h0:i=0
     ·subst h0;rw[if_pos (by omega),if_neg (by omega),if_pos rfl];exact qtx hk0 hg
     ·rw[if_neg (by omega),if_neg (by omega),if_neg h0]
    repeat' (refine N.go ?_;first|exact N.true|refine N.obl (qga (by rfl)) ?_|refine N.obl qkx ?_|refine N.obl (qky (by rfl)) ?_|refine N.obl qhs ?_|refine N.obl (.plain (by rfl)) ?_|refine N.obl (.one (.ptr rfl)) ?_|refine N.obl (.one (.map rfl)) ?_|refine N.obl (.one (.slice rfl)) ?_|refine N.obl (qih (l:=0) hcap (fun j hj=>absurd hj (by omega)) hgr) ?_|fail)
   | some q=>
    obtain⟨r,c⟩:=q
    obtain⟨q1,q2,q3⟩:=hx
    have q1:1≤r:=q1
    have q2:r≤E.length:=q2
    have q3:r≤c:=q3
    by_cases hlt:r<E.length
    ·obtain⟨k0,hk0,e0,he0⟩:=qmz (E:=E) (i:=r) hlt
     obtain⟨e1,hg⟩:=qpy he0
     have hset:allF E (r+1)=seten (allF E r) r e1:=by
      funext i
      unfold allF seten
      by_cases h0:i=r
      ·subst h0;rw[if_pos (by omega),if_pos rfl];exact qtx hk0 hg
      ·rw[if_neg h0]
       by_cases h1:i<r
       ·rw[if_pos (by omega)];exact(if_pos h1).symm
       ·rw[if_neg (by omega)];exact(if_neg h1).symm
     have hgr:∀ cap i,i<cap→allF E (r+1) i=growen (allF E r) r e1 i:=fun cap i _=>by
      rw[hset]
      unfold seten growen
      by_cases h0:i<r
      ·rw[if_neg (by omega),if_pos h0]
      ·rw[if_neg h0]
       by_cases h1:i=r
       ·rw[if_pos h1,if_pos h1]
       ·rw[if_neg h1,if_neg h1];unfold allF;rw[if_neg h0]
     repeat' (refine N.go ?_;first|refine N.forkYes (by rw[decide_eq_true_eq];omega) ?_|fail)
     refine N.go ?_
     refine N.idx r 1 rfl hlt ?_
     repeat' (refine N.go ?_;first|with_reducible refine N.alt ?_|refine N.load _ (qty r rfl hk0 (by first|rfl|omega)) ?_|refine qz8 entV E rfl Tryz.underlying124 Tryz.underlying3 Tryz.type85 rfl (entV e1) (by rw[hg];rfl) rfl ?_|fail)
     refine N.go ?_
     refine q31 (entV e1) (q0g (by rfl) (by rfl)) (by rfl) (by show r*10≤c*10;omega) (by omega) (by show(r+1)*80≤_;omega) (enC true c (seten (allF E r) r e1)) (fun h=>wr_en (by omega) rfl) (fun hr=>?_) (fun hg2 cap hcap=>?_)
     ·skip
      refine N.go ?_
      refine N.nextR (some (r+1,c)) [(0,0),(1,1),(2,2),(6,6),(7,7)] ⟨⟨by show 1≤r+1;omega,hlt,hr⟩,by show E.length-(r+1)<E.length-r;omega⟩ ?_
      repeat' (refine N.go ?_;first|exact N.true|refine N.obl (qga (by rfl)) ?_|refine N.obl qkx ?_|refine N.obl (qky (by rfl)) ?_|refine N.obl qhs ?_|refine N.obl (.plain (by rfl)) ?_|refine N.obl (.one (.ptr rfl)) ?_|refine N.obl (.one (.map rfl)) ?_|refine N.obl (.one (.slice rfl)) ?_|refine N.obl (re_eq (q0f (by rw[i64s _ (by omega) (by omega)];omega)) rfl) ?_|refine N.obl (q1n (fun i _=>by rw[hset])) ?_|fail)
     ·skip
      refine N.go ?_
      refine N.nextR (some (r+1,cap)) [(0,0),(1,1),(2,2),(6,6),(9,7)] ⟨⟨by show 1≤r+1;omega,hlt,hcap⟩,by show E.length-(r+1)<E.length-r;omega⟩ ?_
      repeat' (refine N.go ?_;first|exact N.true|refine N.obl (qga (by rfl)) ?_|refine N.obl qkx ?_|refine N.obl (qky (by rfl)) ?_|refine N.obl qhs ?_|refine N.obl (.plain (by rfl)) ?_|refine N.obl (.one (.ptr rfl)) ?_|refine N.obl (.one (.map rfl)) ?_|refine N.obl (.one (.slice rfl)) ?_|refine N.obl (re_eq (q0f (by rw[i64s _ (by omega) (by omega)];omega)) rfl) ?_|refine N.obl (qih (ci:=enC true c (allF E r)) hcap (fun j hj=>enC_f (by omega)) (hgr cap)) ?_|fail)
    ·obtain rfl:r=E.length:=by omega
     repeat' (refine N.go ?_;first|refine N.forkNo (by rw[decide_eq_false_iff_not];omega) ?_|fail)
     refine N.go ?_
     refine N.endSame ?_
     refine N.some (some c) ⟨⟨q1,q3⟩,?_⟩
     refine N.obl (.one (.slice rfl)) ?_
     refine N.obl ⟨qp0 (by rfl),trivial⟩ ?_
     refine N.obl ⟨⟨Nat.le_of_ble_eq_true rfl,qxe (T':=allF E E.length) (fun _ _=>rfl) (by rfl)⟩,trivial⟩ ?_
     refine N.obl ⟨⟨.inl rfl,.inr ⟨_,rfl,rfl⟩,trivial⟩,.inl rfl,trivial⟩ ?_
     exact N.true
open Go Go.RowKit Sx
theorem qkz {α:Type} (D:List (Int×α)) (k:Int) (a:α):dGet (dPut D k a) k=some a:=by
 unfold dPut
 cases hg:dGet D k with
 | none=>
  simp only
  have:(D++[(k,a)]).find? (fun q=>decide (q.1=k))=some (k,a):=by
   rw[List.find?_append,List.find?_eq_none.2 (by simpa using dGet_none.1 hg)]
   simp
  simp[dGet,this]
 | some b=>
  simp only
  have hm:=qmm hg
  induction D with
  | nil=>cases hm
  | cons q D ih=>
   unfold dGet
   rw[List.map_cons,List.find?_cons]
   by_cases e:q.1=k
   ·simp[e]
   ·have h1:decide ((if q.1=k then (k,a) else q).1=k)=false:=by rw[if_neg e];simp[e]
    rw[h1]
    have hg':dGet D k=some b:=by
     unfold dGet at hg
     rw[List.find?_cons] at hg
     simpa[e,dGet] using hg
    exact ih hg' (qmm hg')
theorem qn0 {α:Type} (D:List (Int×α)) {k n:Int} (a:α) (h:n≠k):dGet (dPut D k a) n=dGet D n:=by
 unfold dPut
 cases hg:dGet D k with
 | none=>
  simp only
  unfold dGet
  rw[List.find?_append]
  cases D.find? (fun q=>decide (q.1=n)) with
  | none=>simp[Ne.symm h]
  | some x=>simp
 | some b=>
  simp only
  clear hg
  unfold dGet
  induction D with
  | nil=>rfl
  | cons q D ih=>
   rw[List.map_cons,List.find?_cons,List.find?_cons]
   by_cases e:q.1=k
   ·have h1:decide (q.1=n)=false:=by simp[e,Ne.symm h]
    have h2:decide ((if q.1=k then (k,a) else q).1=n)=false:=by rw[if_pos e];simp[Ne.symm h]
    rw[h1,h2];exact ih
   ·rw[if_neg e]
    cases decide (q.1=n) with
    | true=>rfl
    | false=>exact ih
open Go Go.RowKit Sx
def q0h (n boot seq now:Int):Prop:=(0≤n∧n<64)∧serOK boot∧serOK seq∧(0≤now∧now≤1000000)
theorem HOK.sub {X:Ctx} {ρ:Nat→Nat×Nat} {h h':Hp} {w:World} (H:HOK X ρ h w) (hb:∀ i,i<X.n0→Fil h' i) (hs:∀ (i:Nat) (c:Chunk),h'[i]?=some (some c)→h[i]?=some (some c)∧∀ j,j<c.n→Safe1 h' (c.f j)):HOK X ρ h' w:=by
 refine⟨H.evo,fun i hi=>⟨hb i hi,(H.base i hi).2⟩,fun i c hi=>H.lt i c (hs i c hi).1,fun i c hi j hj=>?_,fun i c hi=>H.own i c (hs i c hi).1,fun i c j d hi ho hj=>H.sep i c j d (hs i c hi).1 ho (hs j d hj).1,?_⟩
 ·obtain⟨x,hx,hd⟩:=H.cell i c (hs i c hi).1 j hj
  exact⟨x,hx,fun r hr=>((hs i c hi).2 j hj).inScope ρ r hr |>.trans hd.self⟩
 ·obtain⟨S,E⟩:=H.ext
  exact E.less fun i c hi=>⟨rfl,c,(hs i c hi).1,nlr _,.inr rfl⟩
open Go Go.RowKit Sx
instance (n boot seq now:Int):Decidable (q0h n boot seq now):=by unfold q0h;infer_instance
structure TOK (T:Tbl):Prop where
 most:1≤T.most∧T.most≤64
 len:T.E.length≤T.most
 seen:∀ n l,T.lives n=some l→l.W.seen<18446744073709551616
structure EOK (E:List (Int×Ent)):Prop where
 nodup:(E.map (·.1)).Nodup
 key:∀ k e,dGet E k=some e→e.node=k
theorem qtz {α:Type} {D:List (Int×α)} {k:Int} {a:α} (h:(D.map (·.1)).Nodup):((dPut D k a).map (·.1)).Nodup:=by
 unfold dPut
 cases hg:dGet D k with
 | none=>
  simp only[List.map_append,List.map_cons,List.map_nil]
  refine List.nodup_append.2 ⟨h,by simp,fun x hx y hy e=>?_⟩
  simp only[List.mem_singleton] at hy
  obtain⟨q,hq,rfl⟩:=List.mem_map.1 hx
  exact dGet_none.1 hg q hq (e.trans hy)
 | some b=>
  simp only[List.map_map]
  have:(fun q:Int×α=>(if q.1=k then (k,a) else q).1)=fun q=>q.1:=by
   funext q
   by_cases e:q.1=k
   ·rw[if_pos e,e]
   ·rw[if_neg e]
  simpa[Function.comp_def,this] using h
theorem EOK.put {E:List (Int×Ent)} (h:EOK E) (e:Ent):EOK (dPut E e.node e):=⟨qtz h.nodup,fun k x hx=>by
 by_cases hk:k=e.node
 ·subst hk;rw[qkz] at hx;obtain rfl:e=x:=by simpa using hx
  rfl
 ·rw[qn0 _ _ hk] at hx;exact h.key k x hx⟩
theorem EOK.nil:EOK []:=⟨List.nodup_nil,fun k e h=>by simp[dGet] at h⟩
abbrev Bs:Nat:=18446744073709551616
theorem qeu:0<Bs:=by decide
theorem qbw (n:Nat):0<Bs^n:=Nat.pow_pos qeu
def dg (v j:Nat):Nat:=v / Bs^j%Bs
theorem dg_lt (v j:Nat):dg v j<18446744073709551616:=Nat.mod_lt _ qeu
theorem qfr (j:Nat):dg 0 j=0:=by simp[dg]
theorem qct (v j:Nat):v / Bs^j=v / Bs^(j+1)*Bs+dg v j:=by
 unfold dg
 rw[Nat.pow_succ,←Nat.div_div_eq_div_mul]
 have:=Nat.div_add_mod (v / Bs^j) Bs
 rw[Nat.mul_comm];exact this.symm
theorem qht (v j:Nat):v%Bs^(j+1)=v%Bs^j+Bs^j*dg v j:=by
 unfold dg
 rw[Nat.pow_succ,Nat.mod_mul]
theorem qii (v j:Nat) (h:v<Bs^j):dg v j=0:=by
 unfold dg;rw[Nat.div_eq_of_lt h];rfl
theorem q0i (v n j:Nat) (h:j<n):dg (v%Bs^n) j=dg v j:=by
 unfold dg
 obtain⟨k,rfl⟩:∃ k,n=j+(k+1):=⟨n-j-1,by omega⟩
 rw[Nat.pow_add,Nat.mod_mul_right_div_self,Nat.pow_succ,Nat.mul_comm (Bs^k),Nat.mod_mul_right_mod]
theorem qxg (n a b:Nat) (ha:a<Bs^n) (hb:b<Bs^n) (h:∀ j,j<n→dg a j=dg b j):a=b:=by
 have key:∀ m,m≤n→a%Bs^m=b%Bs^m:=by
  intro m
  induction m with
  | zero=>intro _;simp[Nat.mod_one]
  | succ m ih=>intro hm;rw[qht,qht,ih (by omega),h m (by omega)]
 have:=key n (nlr _)
 rwa[Nat.mod_eq_of_lt ha,Nat.mod_eq_of_lt hb] at this
def cry (a b i:Nat):Nat:=(a%Bs^i+b%Bs^i) / Bs^i
theorem qp1 (a b:Nat):cry a b 0=0:=by simp[cry,Nat.mod_one]
theorem qt0 (a b i:Nat):cry a b i≤1:=by
 unfold cry
 have h1:=Nat.mod_lt a (qbw i)
 have h2:=Nat.mod_lt b (qbw i)
 have:(a%Bs^i+b%Bs^i) / Bs^i<2:=(Nat.div_lt_iff_lt_mul (qbw i)).2 (by omega)
 omega
theorem qk0 (a b i:Nat):dg a i+dg b i+cry a b i=dg (a+b) i+Bs*cry a b (i+1):=by
 have e1:∀ m,a+b=(a / Bs^m+b / Bs^m+cry a b m)*Bs^m+(a%Bs^m+b%Bs^m)%Bs^m:=by
  intro m
  have ha:=Nat.div_add_mod a (Bs^m)
  have hb:=Nat.div_add_mod b (Bs^m)
  have hc:=Nat.div_add_mod (a%Bs^m+b%Bs^m) (Bs^m)
  unfold cry
  generalize Bs^m=q at *
  rw[Nat.add_mul,Nat.add_mul,Nat.mul_comm (a / q),Nat.mul_comm (b / q),Nat.mul_comm _ q]
  omega
 have e2:∀ m,(a+b) / Bs^m=a / Bs^m+b / Bs^m+cry a b m:=by
  intro m
  have h:=e1 m
  have hr:=Nat.mod_lt (a%Bs^m+b%Bs^m) (qbw m)
  rw[h,Nat.mul_comm,Nat.mul_add_div (qbw m),Nat.div_eq_of_lt hr,Nat.add_zero]
 have s0:=qct a i
 have s1:=qct b i
 have s2:=qct (a+b) i
 have q0:=e2 i
 have q1:=e2 (i+1)
 rw[q0,q1] at s2
 generalize a / Bs^(i+1)=x at *
 generalize b / Bs^(i+1)=y at *
 generalize cry a b (i+1)=z at *
 generalize cry a b i=u at *
 simp only[Bs] at *
 omega
theorem q1q (a b i:Nat):(dg a i+dg b i+cry a b i)%18446744073709551616=dg (a+b) i:=by
 have:=qk0 a b i
 have h:=dg_lt (a+b) i
 simp only[Bs] at this
 omega
theorem qxh (a b i:Nat):(dg a i+dg b i+cry a b i) / 18446744073709551616=cry a b (i+1):=by
 have:=qk0 a b i
 have h:=dg_lt (a+b) i
 simp only[Bs] at this
 omega
theorem q1r (x d b B:Nat) (hd:d<B) (hb:0<b):(x%b*B+d) / b=(x*B+d) / b%B∧(x%b*B+d)%b=(x*B+d)%b:=by
 have hq:=Nat.div_add_mod x b
 have hr:=Nat.mod_lt x hb
 have e:x*B+d=b*(x / b*B)+(x%b*B+d):=by
  have h:x*B=b*(x / b)*B+x%b*B:=by rw[←Nat.add_mul,hq]
  rw[h,Nat.mul_assoc,Nat.add_assoc]
 have hlt:(x%b*B+d) / b<B:=by
  rw[Nat.div_lt_iff_lt_mul hb]
  have:(x%b+1)*B≤b*B:=Nat.mul_le_mul_right _ hr
  rw[Nat.add_mul] at this
  rw[Nat.mul_comm B b]
  omega
 constructor
 ·rw[e,Nat.mul_add_div hb,Nat.mul_comm (x / b) B,Nat.mul_add_mod,Nat.mod_eq_of_lt hlt]
 ·rw[e,Nat.mul_add_mod]
theorem qxi (a b i:Nat) (hb:0<b):(a / Bs^(i+1)%b*18446744073709551616+dg a i) / b=dg (a / b) i∧(a / Bs^(i+1)%b*18446744073709551616+dg a i)%b=a / Bs^i%b:=by
 have h:=q1r (a / Bs^(i+1)) (dg a i) b Bs (dg_lt a i) hb
 rw[←qct] at h
 refine⟨?_,h.2⟩
 have h1:=h.1
 unfold dg at *
 rw[h1,Nat.div_div_eq_div_mul,Nat.div_div_eq_div_mul,Nat.mul_comm]
theorem qk1 (a i k:Nat) (hk:k<64):dg (a / 2^k) i=dg a i / 2^k+dg a (i+1)*2^(64-k)%18446744073709551616:=by
 have e:Bs=2^k*2^(64-k):=by rw[←Nat.pow_add,show k+(64-k)=64 from by omega]
 have s:=qct a i
 have s1:=qct a (i+1)
 have hd:=dg_lt a i
 unfold dg at s1 s hd ⊢
 rw[Nat.div_div_eq_div_mul,Nat.mul_comm (2^k),←Nat.div_div_eq_div_mul]
 generalize a / Bs^i%Bs=d0 at *
 generalize a / Bs^(i+1)%Bs=d1 at *
 generalize a / Bs^(i+1)=x at *
 generalize a / Bs^(i+1+1)=y at *
 rw[s,s1]
 have hp:0<2^k:=Nat.pow_pos (by decide)
 have hp2:0<2^(64-k):=Nat.pow_pos (by decide)
 generalize 2^k=p at *
 generalize 2^(64-k)=q at *
 show _=d0 / p+d1*q%Bs
 have hd':d0<Bs:=hd
 clear s s1 hd hk
 generalize Bs=B at *
 subst e
 rw[show(y*(p*q)+d1)*(p*q)+d0=p*((y*(p*q)+d1)*q)+d0 from by rw[Nat.mul_left_comm],Nat.mul_add_div hp]
 have hq:d0 / p<q:=by rw[Nat.div_lt_iff_lt_mul hp,Nat.mul_comm];exact hd'
 have h2:(y*(p*q)+d1)*q+d0 / p=(p*q)*(y*q)+(d1*q+d0 / p):=by
  rw[Nat.add_mul,Nat.mul_comm y (p*q),Nat.mul_assoc (p*q),Nat.add_assoc]
 rw[h2,Nat.mul_add_mod]
 have h3:=Nat.div_add_mod (d1*q) (p*q)
 have h4:d1*q%(p*q)=d1%p*q:=by rw[Nat.mul_mod_mul_right]
 have h5:d1%p*q+d0 / p<p*q:=by
  have:=Nat.mod_lt d1 hp
  have:(d1%p+1)*q≤p*q:=Nat.mul_le_mul_right _ this
  rw[Nat.add_mul] at this
  omega
 rw[show d1*q+d0 / p=p*q*(d1*q / (p*q))+(d1*q%(p*q)+d0 / p) from by omega,Nat.mul_add_mod,h4,Nat.mod_eq_of_lt h5]
 omega
open Go.RowKit
def lim (n:Nat) (f:Nat→Nat):Array Value:=((List.range n).map fun j=>Value.int .u64 ((f j:Nat):Int)).toArray
@[simp] theorem lim_size (n:Nat) (f:Nat→Nat):(lim n f).size=n:=by simp[lim]
theorem qdx (n:Nat) (f:Nat→Nat) (j:Nat) (h:j<n):(lim n f)[j]?=some (.int .u64 ((f j:Nat):Int)):=by
 simp[lim,h]
theorem q1s (n:Nat) (f:Nat→Nat):(lim n f).all (·.oneCell')=true:=by
 rw[Array.all_eq_true_iff_forall_mem]
 intro x hx
 simp only[lim,List.mem_toArray,List.mem_map] at hx
 obtain⟨j,_,rfl⟩:=hx
 rfl
theorem qij (n:Nat) (f g:Nat→Nat) (i:Nat) (v:Int) (hi:i<n) (hv:v=((g i:Nat):Int)) (h:∀ j,j<n→j≠i→f j=g j):(lim n f).setIfInBounds i (.int .u64 v)=lim n g:=by
 apply Array.ext_getElem?
 intro j
 rw[Array.getElem?_setIfInBounds]
 by_cases hj:j<n
 ·rw[qdx n g j hj]
  split
  ·rename_i e;subst e;rw[if_pos (by simpa using hj),hv]
  ·rename_i e;rw[qdx n f j hj,h j hj (Ne.symm e)]
 ·rw[Array.getElem?_eq_none (by simp;omega),Array.getElem?_eq_none (by simp;omega),if_neg (by omega)]
theorem qcp (n:Nat) (f g:Nat→Nat) (h:∀ j,j<n→f j=g j):lim n f=lim n g:=by
 unfold lim
 congr 1
 apply List.map_congr_left
 intro j hj
 rw[h j (by simpa using hj)]
def sz (v:Nat):Array Value:=lim 16 (dg v)
@[simp] theorem sz_size (v:Nat):(sz v).size=16:=lim_size _ _
theorem qik (v j:Nat) (h:j<16):(sz v)[j]?=some (.int .u64 ((dg v j:Nat):Int)):=qdx _ _ _ h
theorem qb8 (v:Nat):(sz v).all (·.oneCell')=true:=q1s _ _
theorem qdi:sz 0 = #[.int .u64 0,.int .u64 0,.int .u64 0,.int .u64 0,.int .u64 0,.int .u64 0,.int .u64 0,.int .u64 0,.int .u64 0,.int .u64 0,.int .u64 0,.int .u64 0,.int .u64 0,.int .u64 0,.int .u64 0,.int .u64 0]:=by
 unfold sz
 rw[qcp 16 (dg 0) (fun _=>0) (fun j _=>qfr j)]
 rfl
theorem qc1 (v:Nat) (h:v<18446744073709551616) (j:Nat):dg v j=if j=0 then v else 0:=by
 split
 ·subst j;simp[dg];exact h
 ·apply qii
  exact Nat.lt_of_lt_of_le h (Nat.le_self_pow (by omega) Bs)
theorem qxj (v:Nat) (h:v<18446744073709551616):sz v = #[.int .u64 v,.int .u64 0,.int .u64 0,.int .u64 0,.int .u64 0,.int .u64 0,.int .u64 0,.int .u64 0,.int .u64 0,.int .u64 0,.int .u64 0,.int .u64 0,.int .u64 0,.int .u64 0,.int .u64 0,.int .u64 0]:=by
 unfold sz
 rw[qcp 16 (dg v) (fun j=>if j=0 then v else 0) (fun j _=>qc1 v h j)]
 rfl
def wi (neg over:Bool) (v:Nat):Array Value:=#[.bool neg,.bool over]++sz v
@[simp] theorem wi_size (neg over:Bool) (v:Nat):(wi neg over v).size=18:=by simp[wi]
theorem q0j (neg over:Bool) (v:Nat):(wi neg over v)[0]?=some (.bool neg):=by simp[wi,Array.getElem?_append]
theorem qt1 (neg over:Bool) (v:Nat):(wi neg over v)[1]?=some (.bool over):=by simp[wi,Array.getElem?_append]
theorem q0k (neg over:Bool) (v j:Nat) (h:j<16):(wi neg over v)[2+j]?=some (.int .u64 ((dg v j:Nat):Int)):=by
 rw[wi,Array.getElem?_append,if_neg (by simp),show 2+j - #[Value.bool neg,Value.bool over].size=j from by simp]
 exact qik v j h
theorem qil (neg over:Bool) (v:Nat):(wi neg over v).all (·.oneCell')=true:=by
 unfold wi
 rw[Array.all_append,qb8];simp[Value.oneCell']
def IsRow (w:World) (g:Nat) (t:TypeId) (cs:Array Value):Prop:=w.heap[g]?=some (.cells cs t (0,0))
section
variable {w:World} {g:Nat} {t:TypeId} {cs:Array Value}
theorem IsRow.lt (h:IsRow w g t cs):g<w.heap.size:=(Array.getElem?_eq_some_iff.1 h).1
theorem IsRow.cell (h:IsRow w g t cs) {j:Nat} {v:Value} (hv:cs[j]?=some v):w.cell? ⟨g,j,none⟩=some v:=by
 rw[cell_of_row w g j cs t _ h];exact hv
theorem IsRow.frozen (h:IsRow w g t cs) (j:Nat):w.frozen? ⟨g,j,none⟩=false:=by
 simp[World.frozen?,show w.heap[g]?=some (.cells cs t (0,0)) from h]
theorem IsRow.alloc (h:IsRow w g t cs) (o:Obj):IsRow (w.alloc o) g t cs:=by
 have:=h.lt
 unfold IsRow World.alloc at *
 simp only[Array.getElem?_push]
 rw[if_neg (by omega)];exact h
theorem IsRow.drew (h:IsRow w g t cs):IsRow w.drew g t cs:=h
theorem IsRow.drewN (h:IsRow w g t cs) (n:Nat):IsRow (w.drewN n) g t cs:=h
theorem IsRow.new (w:World) (cs:Array Value) (t:TypeId):IsRow (w.alloc (.cells cs t)) w.heap.size t cs:=by
 unfold IsRow World.alloc;simp
theorem IsRow.set (h:IsRow w g t cs) (i:Nat) (v:Value):IsRow (w.setCell ⟨g,i,none⟩ v) g t (cs.setIfInBounds i v):=by
 unfold IsRow
 rw[setCell_eq_setRow w g i cs t _ v h]
 exact setRow_heap w g cs _ t _ h
theorem IsRow.setOther (h:IsRow w g t cs) (a:Addr) (v:Value) (hne:a.block≠g):IsRow (w.setCell a v) g t cs:=by
 unfold IsRow World.setCell at *
 simp only[Array.getElem?_modify]
 rw[if_neg hne];exact h
theorem IsRow.row (h:IsRow w g t cs) (ds:Array Value):IsRow (w.setRow g ds) g t ds:=setRow_heap w g cs ds t _ h
theorem IsRow.rowOther (h:IsRow w g t cs) (k:Nat) (ds:Array Value) (hne:g≠k):IsRow (w.setRow k ds) g t cs:=(setRow_other w k g ds hne).trans h
theorem IsRow.below {w':World} {B:Nat} (h:IsRow w g t cs) (hb:Below B w w') (hg:g<B):IsRow w' g t cs:=(hb.block g hg).trans h
end
def Digs (w:World) (g o v:Nat):Prop:=∀ j,j<16→w.cell? ⟨g,o+j,none⟩=some (.int .u64 ((dg v j:Nat):Int))
theorem Digs.of_sz {w:World} {g:Nat} {t:TypeId} {v:Nat} (h:IsRow w g t (sz v)):Digs w g 0 v:=fun j hj=>by
 rw[Nat.zero_add];exact h.cell (qik v j hj)
theorem Digs.of_wi {w:World} {g:Nat} {t:TypeId} {neg over:Bool} {v:Nat} (h:IsRow w g t (wi neg over v)):Digs w g 2 v:=fun j hj=>h.cell (q0k neg over v j hj)
theorem Digs.lt {w:World} {g o v:Nat} (h:Digs w g o v):g<w.heap.size:=World.block_lt_of_cell? _ _ (h 0 (by omega))
theorem Digs.below {w w':World} {g o v B:Nat} (h:Digs w g o v) (hb:Below B w w') (hg:g<B):Digs w' g o v:=fun j hj=>(hb.cell (p:=⟨g,o+j,none⟩) hg).trans (h j hj)
theorem qc2 {P:Program} {ops:Array Oper} {rest:List Oper} {o:Oper} {a:Act} {w:World} {Q:Exit→Act→World→Prop} (hg:o.guard=none) (t:TypeId) (i:Nat) (x:Operand) (ho:o.op=.build t #[(i,x)])
  (v:Value) (hv:a.eval x=v) (cs:Array Value) (hb:P.built t [(i,v)]=some cs)
  (h:wpList P ops Q rest (a.put o.dst (.agg cs)) w):wpList P ops Q (o::rest) a w:=by
 subst hv
 have e:((#[(i,x)]:Array (Nat×Operand)).map fun(i,x)=>(i,a.eval x)).toList=[(i,a.eval x)]:=by simp
 refine wpList_build hg t _ ho ?_ ?_
 ·rw[e,hb];rfl
 ·rw[e,hb];exact h
theorem qgb {P:Program} {ops:Array Oper} {rest:List Oper} {o:Oper} {a:Act} {w:World} {Q:Exit→Act→World→Prop} (hg:o.guard=none) (t:TypeId) (i j:Nat) (x y:Operand) (ho:o.op=.build t #[(i,x),(j,y)])
  (u v:Value) (hu:a.eval x=u) (hv:a.eval y=v) (cs:Array Value) (hb:P.built t [(i,u),(j,v)]=some cs)
  (h:wpList P ops Q rest (a.put o.dst (.agg cs)) w):wpList P ops Q (o::rest) a w:=by
 subst hu hv
 have e:((#[(i,x),(j,y)]:Array (Nat×Operand)).map fun(i,x)=>(i,a.eval x)).toList=[(i,a.eval x),(j,a.eval y)]:=by simp
 refine wpList_build hg t _ ho ?_ ?_
 ·rw[e,hb];rfl
 ·rw[e,hb];exact h
theorem qgc {P:Program} {ops:Array Oper} {rest:List Oper} {o:Oper} {a:Act} {w:World} {Q:Exit→Act→World→Prop} (hg:o.guard=none) (t:TypeId) (ho:o.op=.build t #[])
  (cs:Array Value) (hb:P.built t []=some cs)
  (h:wpList P ops Q rest (a.put o.dst (.agg cs)) w):wpList P ops Q (o::rest) a w:=by
 have e:((#[]:Array (Nat×Operand)).map fun(i,x)=>(i,a.eval x)).toList=[]:=by simp
 refine wpList_build hg t _ ho ?_ ?_
 ·rw[e,hb];rfl
 ·rw[e,hb];exact h
theorem qhl {P:Program} (w:World) (g o:Nat) (ty:TypeId) (cs:Array Value) (d:TypeDesc) (hc:∀ j v,cs[j]?=some v→w.cell? ⟨g,o+j,none⟩=some v)
  (hu:P.underlying ty=some d) (hd:(match d with|.struct _|.array _ _=>true|_=>false)=true) (hi:(P.info? ty).map (·.size)=some cs.size) :
  (loadVar ty ⟨g,o,none⟩).run P w=.ok (.agg cs) w:=by
 have hl:(loadCells ⟨g,o,none⟩ cs.toList.length).run P w=.ok cs.toList.toArray w:=
  run_loadCells_list (P:=P) w ⟨g,o,none⟩ cs.toList (fun j v hv=>by
   have hadd:(⟨g,o,none⟩:Addr).add j=⟨g,o+j,none⟩:=by unfold Addr.add;split<;>simp_all
   rw[hadd]
   exact hc j v (by simpa using hv))
 cases hq:P.info? ty with
 | none=>simp[hq] at hi
 | some i=>
  have hs:i.size=cs.size:=by simpa[hq] using hi
  have hagg:(isAgg ty).run P w=.ok true w:=by
   unfold isAgg
   rw[Sem.run_bind,run_underlying hu w]
   cases d<;>simp_all
  simp only[Array.length_toList,Array.toArray_toList] at hl
  simp[loadVar,Sem.run_bind,hagg,sizeOf,typeInfo,hq,hs,hl]
theorem qcu {P:Program} {ops:Array Oper} {rest:List Oper} {o:Oper} {a:Act} {w:World} {Q:Exit→Act→World→Prop} (hgd:o.guard=none) (ty:TypeId) (x:Operand) (ho:o.op=.load ty x)
  (g k:Nat) (hx:a.eval x=.pointer (some ⟨g,k,none⟩)) (cs:Array Value) (d:TypeDesc) (hc:∀ j v,cs[j]?=some v→w.cell? ⟨g,k+j,none⟩=some v)
  (hu:P.underlying ty=some d) (hd:(match d with|.struct _|.array _ _=>true|_=>false)=true) (hi:(P.info? ty).map (·.size)=some cs.size)
  (h:wpList P ops Q rest (a.put o.dst (.agg cs)) w):wpList P ops Q (o::rest) a w:=
 wpList_plain hgd fun _ hK=>by
  unfold Oper.wp execOp
  simp only[ho,hx,Instr.loadAt,Instr.sureAddr,Sem.run_bind,Sem.run_pure,Result.andThen_ok,qhl w g k ty cs d hc hu hd hi]
  exact hK _ _ h
theorem Digs.cells {w:World} {g o v:Nat} (h:Digs w g o v):∀ j u,(sz v)[j]?=some u→w.cell? ⟨g,o+j,none⟩=some u:=fun j u hu=>by
 have hj:j<16:=by
  rcases Nat.lt_or_ge j 16 with h|h
  ·exact h
  ·rw[Array.getElem?_eq_none (by simpa using h)] at hu;cases hu
 rw[qik v j hj] at hu
 rw[h j hj];exact hu
section
variable {P:Program} {ops:Array Oper} {rest:List Oper} {o:Oper} {a:Act} {w:World} {Q:Act→Prop}
theorem qcv (hw:Region.wanted o (yielded ops a.tmps)=true) (ty:TypeId) (x:Operand) (ho:o.op=.load ty x)
  (g:Nat) (hx:a.eval x=.pointer (some ⟨g,0,none⟩)) (t:TypeId) (cs:Array Value) (fr:Nat×Nat) (d:TypeDesc) (hg:w.heap[g]?=some (.cells cs t fr))
  (hu:P.underlying ty=some d) (hd:(match d with|.struct _|.array _ _=>true|_=>false)=true) (hi:(P.info? ty).map (·.size)=some cs.size)
  (h:wpStill P ops w Q rest (a.put o.dst (.agg cs))):wpStill P ops w Q (o::rest) a:=by
 unfold wpStill
 rw[if_pos hw]
 unfold Oper.still execOp
 simp only[ho,hx,Instr.loadAt,Instr.sureAddr,Sem.run_bind,Sem.run_pure,Result.andThen_ok,run_loadVar_row w g t ty cs fr d hg hu hd hi]
 exact⟨rfl,h⟩
theorem qdy (hw:Region.wanted o (yielded ops a.tmps)=true) (t:TypeId) (ho:o.op=.build t #[])
  (cs:Array Value) (hb:P.built t []=some cs)
  (h:wpStill P ops w Q rest (a.put o.dst (.agg cs))):wpStill P ops w Q (o::rest) a:=by
 have e:((#[]:Array (Nat×Operand)).map fun(i,x)=>(i,a.eval x)).toList=[]:=by simp
 unfold wpStill
 rw[if_pos hw]
 unfold Oper.still execOp
 simp only[ho,Sem.run_bind,run_build w t _ cs (e▸hb),Result.andThen_ok]
 exact⟨rfl,h⟩
theorem qdz (hw:Region.wanted o (yielded ops a.tmps)=true) (t:TypeId) (i j:Nat) (x y:Operand) (ho:o.op=.build t #[(i,x),(j,y)])
  (u v:Value) (hu:a.eval x=u) (hv:a.eval y=v) (cs:Array Value) (hb:P.built t [(i,u),(j,v)]=some cs)
  (h:wpStill P ops w Q rest (a.put o.dst (.agg cs))):wpStill P ops w Q (o::rest) a:=by
 subst hu hv
 have e:((#[(i,x),(j,y)]:Array (Nat×Operand)).map fun(i,x)=>(i,a.eval x)).toList=[(i,a.eval x),(j,a.eval y)]:=by simp
 unfold wpStill
 rw[if_pos hw]
 unfold Oper.still execOp
 simp only[ho,Sem.run_bind,run_build w t _ cs (e▸hb),Result.andThen_ok]
 exact⟨rfl,h⟩
end
section
variable {P:Program} {ops:Array Oper} {rest:List Oper} {o:Oper} {a:Act} {w:World}
theorem qn1 {Q:Act→Prop} {ty:TypeId} {x:Operand} (ho:o.op=.load ty x) (h:wpStill P ops w Q (o::rest) a):wpStill P ops w Q (o::rest) a:=h
theorem qfb {Q:Act→Prop} {ty:TypeId} {ps:Array (Nat×Operand)} (ho:o.op=.build ty ps) (h:wpStill P ops w Q (o::rest) a):wpStill P ops w Q (o::rest) a:=h
theorem qck {Q:Exit→Act→World→Prop} {ty:TypeId} {x:Operand} (ho:o.op=.load ty x) (h:wpList P ops Q (o::rest) a w):wpList P ops Q (o::rest) a w:=h
theorem qdq {Q:Exit→Act→World→Prop} {ty:TypeId} {ps:Array (Nat×Operand)} (ho:o.op=.build ty ps) (h:wpList P ops Q (o::rest) a w):wpList P ops Q (o::rest) a w:=h
theorem qbc {Q:Exit→Act→World→Prop} {ty:TypeId} {x y:Operand} (ho:o.op=.store ty x y) (h:wpList P ops Q (o::rest) a w):wpList P ops Q (o::rest) a w:=h
end
section
variable {P:Program} {ops:Array Oper} {o:Oper} {a:Act} {w:World} {K:Act→World→Prop} {Q:Exit→Act→World→Prop} {E:Prop}
theorem qcd (hg:o.guard=none) (ty:TypeId) (x:Operand) (ho:o.op=.load ty x)
  (g:Nat) (hx:a.eval x=.pointer (some ⟨g,0,none⟩)) (t:TypeId) (cs:Array Value) (fr:Nat×Nat) (d:TypeDesc) (hr:w.heap[g]?=some (.cells cs t fr))
  (hu:P.underlying ty=some d) (hd:(match d with|.struct _|.array _ _=>true|_=>false)=true) (hi:(P.info? ty).map (·.size)=some cs.size)
  (hK:K (a.put o.dst (.agg cs)) w):if Region.wanted o (yielded ops a.tmps)=true then Oper.wp P o a w K Q else E:=by
 have hw:Region.wanted o (yielded ops a.tmps)=true:=by simp[Region.wanted,hg]
 rw[if_pos hw]
 exact wp_load_row ty x ho g hx t cs fr d hr hu hd hi hK
theorem qbq (hg:o.guard=none) (ty:TypeId) (x y:Operand) (ho:o.op=.store ty x y)
  (g:Nat) (cells:Array Value) (hx:a.eval x=.pointer (some ⟨g,0,none⟩)) (hy:a.eval y=.agg cells)
  (t:TypeId) (old:Array Value) (hr:w.heap[g]?=some (.cells old t (0,0))) (hi:(P.info? ty).map (·.size)=some cells.size)
  (hold:old.size=cells.size) (h1:cells.all (·.oneCell')=true)
  (hK:K (a.put o.dst undef) (w.setRow g cells)):if Region.wanted o (yielded ops a.tmps)=true then Oper.wp P o a w K Q else E:=by
 have hw:Region.wanted o (yielded ops a.tmps)=true:=by simp[Region.wanted,hg]
 rw[if_pos hw]
 exact wp_store_row ty x y ho g cells hx hy t old hr hi hold h1 hK
end
theorem qc3 {P:Program} {fn:Func} {p q:Tmp} {t1 t2:TypeId} (h:fn.results = #[.cell p t1,.cell q t2]) (tmps:Array Value) (w:World) (A1 A2:Addr) (v1 v2:Value)
  (hp:tmps.getD p undef=.pointer (some A1)) (hq:tmps.getD q undef=.pointer (some A2)) (h1:(loadVar t1 A1).run P w=.ok v1 w) (h2:(loadVar t2 A2).run P w=.ok v2 w) :
  (results fn tmps).run P w=.ok (.tuple #[v1,v2]) w:=by
 have hp':tmps[p]?.getD undef=.pointer (some A1):=by simpa using hp
 have hq':tmps[q]?.getD undef=.pointer (some A2):=by simpa using hq
 simp[results,h,hp',hq',asAddr,h1,h2]
end Go.Proofs.YtdljelmbjdjpjaaGreat


namespace Go.Proofs
open Go.Shelf
def Tryz.lays134_ren:Go.Shelf.Ren:=⟨fun|134=>216|129=>169|n=>n,fun|53=>58|3=>3|4=>4|46=>209|5=>5|9=>9|n=>n,fun|n=>n⟩
theorem Tryz.lays134:Go.Proofs.Lays.n134 Tryz.prog Tryz.lays134_ren:={
 mixed:=by kernel_rfl
 f129:=Tryz.func169.trans (congrArg some (by kernel_rfl))
 f134:=Tryz.func216.trans (congrArg some (by kernel_rfl))
 t3:=Tryz.underlying3
 a3:=Tryz.isAgg3
 z3:=Tryz.sizeOf3
 v3:=Tryz.zeroValue3
 t4:=Tryz.underlying4
 a4:=Tryz.isAgg4
 z4:=Tryz.sizeOf4
 v4:=Tryz.zeroValue4
 t5:=Tryz.underlying5
 a5:=Tryz.isAgg5
 z5:=Tryz.sizeOf5
 v5:=Tryz.zeroValue5
 t9:=Tryz.underlying9
 a9:=Tryz.isAgg9
 z9:=Tryz.sizeOf9
 v9:=Tryz.zeroValue9
 t46:=Tryz.underlying209
 a46:=Tryz.isAgg209
 z46:=Tryz.sizeOf209
 v46:=Tryz.zeroValue209
 t53:=Tryz.underlying58
 a53:=Tryz.isAgg58
 z53:=Tryz.sizeOf58
 v53:=Tryz.zeroValue58 }
theorem Tryz.bits_LeadingZeros64 (x:Int) (w:World) (h0:0≤x) (h1:x≤18446744073709551615) :
  Calls Tryz.prog 216 #[.int .u64 x] w fun e w'=>e=.returned (.int .i64 (64-(Lib.bitLen x.toNat:Int)))∧w'=w:=Any.bits_LeadingZeros64 Tryz.lays134 x w h0 h1
def Tryz.lays129_ren:Go.Shelf.Ren:=⟨fun|129=>169|n=>n,fun|53=>58|3=>3|4=>4|46=>209|5=>5|9=>9|n=>n,fun|n=>n⟩
theorem Tryz.lays129:Go.Proofs.Lays.n129 Tryz.prog Tryz.lays129_ren:={
 mixed:=by kernel_rfl
 f129:=Tryz.func169.trans (congrArg some (by kernel_rfl))
 t3:=Tryz.underlying3
 a3:=Tryz.isAgg3
 z3:=Tryz.sizeOf3
 v3:=Tryz.zeroValue3
 t4:=Tryz.underlying4
 a4:=Tryz.isAgg4
 z4:=Tryz.sizeOf4
 v4:=Tryz.zeroValue4
 t5:=Tryz.underlying5
 a5:=Tryz.isAgg5
 z5:=Tryz.sizeOf5
 v5:=Tryz.zeroValue5
 t9:=Tryz.underlying9
 a9:=Tryz.isAgg9
 z9:=Tryz.sizeOf9
 v9:=Tryz.zeroValue9
 t46:=Tryz.underlying209
 a46:=Tryz.isAgg209
 z46:=Tryz.sizeOf209
 v46:=Tryz.zeroValue209
 t53:=Tryz.underlying58
 a53:=Tryz.isAgg58
 z53:=Tryz.sizeOf58
 v53:=Tryz.zeroValue58 }
theorem Tryz.bits_Len64 (x:Int) (w:World) (h0:0≤x) (h1:x≤18446744073709551615) :
  Calls Tryz.prog 169 #[.int .u64 x] w fun e w'=>e=.returned (.int .i64 (Lib.bitLen x.toNat))∧w'=w:=Any.bits_Len64 Tryz.lays129 x w h0 h1
def Tryz.lays264_ren:Go.Shelf.Ren:=⟨fun|264=>174|n=>n,fun|53=>58|46=>209|n=>n,fun|n=>n⟩
theorem Tryz.lays264:Go.Proofs.Lays.n264 Tryz.prog Tryz.lays264_ren:={
 mixed:=by kernel_rfl
 f264:=Tryz.func174.trans (congrArg some (by kernel_rfl))
 t46:=Tryz.underlying209
 a46:=Tryz.isAgg209
 z46:=Tryz.sizeOf209
 v46:=Tryz.zeroValue209
 t53:=Tryz.underlying58
 a53:=Tryz.isAgg58
 z53:=Tryz.sizeOf58
 v53:=Tryz.zeroValue58 }
open Go.RowKit Go.Lib in
theorem Tryz.bits_Mul64 (x y:Nat) (hx:x<18446744073709551616) (hy:y<18446744073709551616) (w:World) :
  Calls Tryz.prog 174 #[.int .u64 x,.int .u64 y] w fun e w'=>e=.returned (.tuple #[.int .u64 ((x*y / 18446744073709551616:Nat):Int),.int .u64 ((x*y%18446744073709551616:Nat):Int)])∧w'=w:=Any.bits_Mul64 Tryz.lays264 x y hx hy w
namespace YtdljelmbjdjpjaaGreat
open Go.RowKit
theorem add64 (x y c:Int) (hx:0≤x) (hx':x<18446744073709551616) (hy:0≤y) (hy':y<18446744073709551616) (hc0:0≤c) (hc:c≤1) (w:World):(callFunc 175 #[.int .u64 x,.int .u64 y,.int .u64 c]).run Tryz.prog w =
  .ok (.value (.tuple #[.int .u64 ((x+y+c)%18446744073709551616),.int .u64 ((x+y+c) / 18446744073709551616)])) w:=by
 obtain⟨x,rfl⟩:=Int.eq_ofNat_of_zero_le hx
 obtain⟨y,rfl⟩:=Int.eq_ofNat_of_zero_le hy
 obtain⟨c,rfl⟩:=Int.eq_ofNat_of_zero_le hc0
 rw[run_callFunc_extern Tryz.func175 (by kernel_rfl) (by kernel_rfl) (by kernel_rfl) (e:=add64Entry) (by kernel_rfl),run_add64 x y c (by omega) (by omega) (by omega) (by omega)]
 simp only[Result.andThen]
end YtdljelmbjdjpjaaGreat
end Go.Proofs


namespace Go.Proofs.YtdljelmbjdjpjaaGreat
open Go.RowKit
def ndTo (v:Nat):Nat→Nat
 | 0=>0
 | n+1=>if dg v n=0 then ndTo v n else n+1
def nd (v:Nat):Nat:=ndTo v 16
theorem q1t (v n:Nat):ndTo v n≤n:=by
 induction n with
 | zero=>exact nlr _
 | succ n ih=>unfold ndTo;split<;>omega
theorem nd_le (v:Nat):nd v≤16:=q1t v 16
theorem qgd (g o v:Nat) (w:World) (hd:Digs w g o v) :
  Calls Tryz.prog 173 #[.pointer (some ⟨g,o,none⟩)] w fun e w'=>e=.returned (.int .i64 (nd v))∧w=w':=by
 have HD:=Lib.hid hd
 clear hd
 have hle:=nd_le v
 go_enter Tryz.func173,Tryz.ntmps173
 go_wp2
 go_loopw [3] (fun i wr=>wr=w∧∃ n:Nat,n≤16∧i=.int .i64 n∧ndTo v n=nd v) (fun i _=>(intOf i).toNat)
 case atStart=>exact⟨rfl,16,nlr _,rfl,rfl⟩
 case round=>
  obtain⟨rfl,n,hn,rfl,hq⟩:=hrel
  match n,hn,hq with
  | 0,hn,hq=>
   have hq':nd v=0:=hq.symm
   go_wp2_with fail
   go_ret
   exact⟨by rw[hq'];rfl,rfl⟩
  | n+1,hn,hq=>
   have hc:=HD.out n (by omega)
   have e1:((n+1:Nat):Int)-1=n:=by omega
   by_cases hz:dg v n=0
   ·have hq2:ndTo v n=nd v:=by rw[←hq];rw[ndTo,if_pos hz]
    rw[hz] at hc
    go_wp2_with fail
    go_roundw
    case rel=>exact⟨by first|trivial|rfl,n,by omega,by go_num,hq2⟩
    case measure=>simp[intOf]
   ·have hq2:nd v=n+1:=by rw[←hq];rw[ndTo,if_neg hz]
    go_wp2_with fail
    go_ret
    exact⟨by rw[hq2];rfl,rfl⟩
def lb (n:Nat):Nat:=Lib.bitLen n
theorem lb_le (n:Nat) (h:n<18446744073709551616):lb n≤64:=Lib.bitLen_le n 64 (nlr _) h
theorem qt2 (n:Nat) (hn:n<18446744073709551616) (w:World):Calls Tryz.prog 169 #[.int .u64 n] w fun e w'=>e=.returned (.int .i64 (lb n))∧w=w':=
 (Tryz.bits_Len64 n w (by omega) (by omega)).mono fun e w' h=>⟨h.1,h.2.symm⟩
def bl (v:Nat):Nat:=if nd v=0 then 0 else 64*(nd v-1)+lb (dg v (nd v-1))
theorem qhu (g o v:Nat) (w:World) (hd:Digs w g o v) :
  Calls Tryz.prog 212 #[.pointer (some ⟨g,o,none⟩)] w fun e w'=>e=.returned (.int .i64 (bl v))∧w=w':=by
 have HD:=Lib.hid hd
 clear hd
 have hle:=nd_le v
 go_enter Tryz.func212,Tryz.ntmps212
 go_wp2_with fail
 refine(qgd g o v _ HD.out).mono ?_
 rintro e w' ⟨rfl,rfl⟩
 by_cases hz:nd v=0
 ·have hb:bl v=0:=by unfold bl;rw[if_pos hz]
  rw[hz]
  go_wp2_with fail
  go_ret
  exact⟨by rw[hb];rfl,rfl⟩
 ·obtain⟨n,hn⟩:∃ n,nd v=n+1:=⟨nd v-1,by omega⟩
  have hb:bl v=64*n+lb (dg v n):=by unfold bl;rw[if_neg hz,hn];rfl
  rw[hn]
  have e1:((n+1:Nat):Int)-1=n:=by omega
  have hc:=HD.out n (by omega)
  have hlt:=dg_lt v n
  have hlb:=lb_le _ hlt
  have hw:wrap64 (64*(n:Int)+(lb (dg v n):Int))=((64*n+lb (dg v n):Nat):Int):=by unfold wrap64;omega
  go_wp2_with fail
  refine(qt2 _ hlt _).mono ?_
  rintro e w' ⟨rfl,rfl⟩
  go_wp2_with fail
  go_ret
  exact⟨by rw[hb];exact qnu (by omega),rfl⟩
def cm (a b:Nat):Int:=if a<b then -1 else if b<a then 1 else 0
theorem qn2 (g o a h p b:Nat) (w:World) (hd:Digs w g o a) (he:Digs w h p b) (ha:a<Bs^16) (hb:b<Bs^16) :
  Calls Tryz.prog 210 #[.pointer (some ⟨g,o,none⟩),.pointer (some ⟨h,p,none⟩)] w fun e w'=>e=.returned (.int .i64 (cm a b))∧Below w.heap.size w w'∧w.heap.size=w'.heap.size:=by
 have HD:=Lib.hid hd
 have HE:=Lib.hid he
 clear hd he
 go_enter Tryz.func210,Tryz.ntmps210
 go_wp2
 go_loopw [5] (fun i wr=>(∃ n:Nat,n≤16∧i=.int .i64 (n-1)∧a / Bs^n=b / Bs^n)∧Below w.heap.size w wr∧w.heap.size=wr.heap.size) (fun i _=>(intOf i+1).toNat)
 case atStart=>exact⟨⟨16,by omega,rfl,by rw[Nat.div_eq_of_lt ha,Nat.div_eq_of_lt hb]⟩,Below.refl _ _,rfl⟩
 case round=>
  obtain⟨⟨n,hn,rfl,hq⟩,hbel,hsz⟩:=hrel
  match n,hn,hq with
  | 0,hn,hq=>
   simp only[Nat.pow_zero,Nat.div_one] at hq
   have hc:cm a b=0:=by unfold cm;rw[if_neg (by omega),if_neg (by omega)]
   go_wp2_with fail
   go_ret
   exact⟨by rw[hc];rfl,hbel,hsz⟩
  | n+1,hn,hq=>
   have e1:((n+1:Nat):Int)-1=n:=by omega
   rw[e1]
   have c1:wr.cell? ⟨g,o+n,none⟩=some (.int .u64 ((dg a n:Nat):Int)):=(hbel.cell (p:=⟨g,o+n,none⟩) HD.out.lt).trans (HD.out n (by omega))
   have c2:wr.cell? ⟨h,p+n,none⟩=some (.int .u64 ((dg b n:Nat):Int)):=(hbel.cell (p:=⟨h,p+n,none⟩) HE.out.lt).trans (HE.out n (by omega))
   have s1:=qct a n
   have s2:=qct b n
   rw[hq] at s1
   have hbel1:Below w.heap.size w wr.drew:=hbel.drew
   by_cases hlt:dg a n<dg b n
   ·have hcm:cm a b = -1:=by
     unfold cm
     have key:a<b:=Nat.lt_of_div_lt_div (c:=Bs^n) (by omega)
     rw[if_pos key]
    clear s1 s2 hq
    have hlt':((dg a n:Nat):Int)<((dg b n:Nat):Int):=by omega
    go_wp2_with fail
    go_region
    go_wp2_with fail
    go_ret
    exact⟨by rw[hcm];rfl,by repeat (first|with_reducible exact hbel|with_reducible apply Below.drew|with_reducible apply qb3),hsz⟩
   ·have hlt':decide (((dg a n:Nat):Int)<((dg b n:Nat):Int))=false:=decide_eq_false (by omega)
    by_cases hgt:dg b n<dg a n
    ·have hcm:cm a b=1:=by
      unfold cm
      have key:b<a:=Nat.lt_of_div_lt_div (c:=Bs^n) (by omega)
      rw[if_neg (by omega),if_pos key]
     clear s1 s2 hq
     have hgt':((dg b n:Nat):Int)<((dg a n:Nat):Int):=by omega
     go_wp2_with fail
     go_region
     go_wp2_with fail
     go_region
     go_wp2_with fail
     go_ret
     exact⟨by rw[hcm];rfl,by repeat (first|with_reducible exact hbel|with_reducible apply Below.drew|with_reducible apply qb3),hsz⟩
    ·have hgt':decide (((dg b n:Nat):Int)<((dg a n:Nat):Int))=false:=decide_eq_false (by omega)
     have hqq:a / Bs^n=b / Bs^n:=by omega
     clear s1 s2 hq
     go_wp2_with fail
     go_region
     go_wp2_with fail
     go_region
     go_wp2_with fail
     go_roundw
     case rel=>exact⟨⟨n,by omega,by go_num,hqq⟩,by repeat (first|with_reducible exact hbel|with_reducible apply Below.drew|with_reducible apply qb3),hsz⟩
     case measure=>simp[intOf]
def addTo (a b i:Nat):Nat→Nat:=fun j=>if j<i then dg (a+b) j else 0
theorem qt3 (g o a h p b:Nat) (w:World) (hd:Digs w g o a) (he:Digs w h p b) :
  Calls Tryz.prog 183 #[.pointer (some ⟨g,o,none⟩),.pointer (some ⟨h,p,none⟩)] w fun e w'=>e=.returned (.tuple #[.agg (sz (a+b)),.int .u64 (cry a b 16)])∧Below w.heap.size w w':=by
 have HD:=Lib.hid hd
 have HE:=Lib.hid he
 clear hd he
 go_enter Tryz.func183,Tryz.ntmps183
 go_wp2
 go_loopw [7,9] (fun c i wr=>∃ k:Nat,k≤16∧i=.int .i64 k∧c=.int .u64 (cry a b k)∧IsRow wr (w.heap.size+1) 134 (lim 16 (addTo a b k))∧IsRow wr w.heap.size 134 (sz 0)∧Below w.heap.size w wr) (fun _ i _=>16-(intOf i).toNat)
 case atStart=>
  refine⟨0,by omega,rfl,by rw[qp1];rfl,?_,?_,by repeat (first|with_reducible exact Below.refl _ _|with_reducible refine Below.alloc ?_ (by first|(simp;done)|(simp;omega)|omega) _)⟩
  ·rw[qcp 16 (addTo a b 0) (dg 0) (fun j _=>by rw[qfr];unfold addTo;rw[if_neg (by omega)])]
   rw[←qdi]
   have:=IsRow.new (w.alloc (.cells (sz 0) 134)) (sz 0) 134
   rw[show(w.alloc (.cells (sz 0) 134)).heap.size=w.heap.size+1 from by simp] at this
   exact this
  ·rw[←qdi]
   exact(IsRow.new _ _ _).alloc _
 case round=>
  obtain⟨k,hk,rfl,rfl,hrow,hres,hbel⟩:=hrel
  by_cases hlt:k<16
  ·have c1:wr.cell? ⟨g,o+k,none⟩=some (.int .u64 ((dg a k:Nat):Int)):=(hbel.cell (p:=⟨g,o+k,none⟩) HD.out.lt).trans (HD.out k hlt)
   have c2:wr.cell? ⟨h,p+k,none⟩=some (.int .u64 ((dg b k:Nat):Int)):=(hbel.cell (p:=⟨h,p+k,none⟩) HE.out.lt).trans (HE.out k hlt)
   have c3:=hrow.cell (qdx 16 (addTo a b k) k hlt)
   have f3:=hrow.frozen k
   have hz:=hbel.size
   have q1:=dg_lt a k
   have q2:=dg_lt b k
   have q3:=qt0 a b k
   have ha:∀ w:World,(callFunc 175 #[.int .u64 (dg a k:Nat),.int .u64 (dg b k:Nat),.int .u64 (cry a b k:Nat)]).run Tryz.prog w =
    .ok (.value (.tuple #[.int .u64 (dg (a+b) k:Nat),.int .u64 (cry a b (k+1):Nat)])) w:=fun w=>by
    rw[add64 _ _ _ (by omega) (by omega) (by omega) (by omega) (by omega) (by omega)]
    have e1:=q1q a b k
    have e2:=qxh a b k
    rw[show((dg a k:Nat):Int)+(dg b k:Nat)+(cry a b k:Nat)=((dg a k+dg b k+cry a b k:Nat):Int) from by omega]
    rw[show(((dg a k+dg b k+cry a b k:Nat):Int)%18446744073709551616)=((dg (a+b) k:Nat):Int) from by omega]
    rw[show(((dg a k+dg b k+cry a b k:Nat):Int) / 18446744073709551616)=((cry a b (k+1):Nat):Int) from by omega]
   go_wp2_with fail
   go_region
   go_wp2_with fail
   go_roundw
   case rel=>
    refine⟨k+1,by omega,by go_num,rfl,?_,?_,by repeat (first|with_reducible exact hbel|with_reducible apply Below.drew|with_reducible apply qb3|with_reducible refine Below.setCell ?_ (by first|(simp;done)|(simp;omega)|omega) _)⟩
    ·have:=hrow.drew.set k (.int .u64 (dg (a+b) k:Nat))
     rw[qij 16 (addTo a b k) (addTo a b (k+1)) k _ hlt (by unfold addTo;rw[if_pos (by omega)]) (fun j hj hne=>by unfold addTo;by_cases hjk:j<k<;>simp[hjk,show j<k+1↔j<k by omega])] at this
     exact this
    ·exact hres.drew.setOther _ _ (by simp)
   case measure=>simp[intOf];omega
  ·obtain rfl:k=16:=by omega
   rw[qcp 16 (addTo a b 16) (dg (a+b)) (fun j hj=>by unfold addTo;rw[if_pos hj])] at hrow
   have hrow':IsRow wr (w.heap.size+1) 134 (sz (a+b)):=hrow
   clear hrow
   go_wp2_with (first|(refine wpList_load_row rfl 134 _ rfl (w.heap.size+1) rfl _ (sz (a+b)) _ _ hrow' Tryz.underlying134 rfl (by rw[sz_size];kernel_rfl) ?_)|(refine wpList_store_row rfl 134 _ _ rfl w.heap.size (sz (a+b)) rfl rfl _ (sz 0) hres (by rw[sz_size];kernel_rfl) (by simp) (qb8 _) ?_))
   have hrow2:=hres.row (sz (a+b))
   have hl:=run_loadVar_row (P:=Tryz.prog) (wr.setRow w.heap.size (sz (a+b))) w.heap.size _ 134 (sz (a+b)) _ _ hrow2 Tryz.underlying134 rfl (by rw[sz_size];kernel_rfl)
   refine bodyPost_ret (v:=.tuple #[.agg (sz (a+b)),.int .u64 (cry a b 16:Nat)]) (by simp[results,Tryz.results183,asAddr,hl]) rfl ⟨rfl,below_setRow hbel (nlr _) _⟩
open Go Go.RowKit Sx
def limL (n:Nat) (f:Nat→Nat):List Value:=(List.range n).map fun j=>.int .u64 ((f j:Nat):Int)
theorem q32 (n:Nat) (f:Nat→Nat):lim n f=⟨limL n f⟩:=rfl
theorem qee (n:Nat) (f:Nat→Nat):(limL n f).length=n:=by simp[limL]
theorem qef {n:Nat} {f:Nat→Nat} {j:Nat} (h:j<n):(limL n f).getD j undef=.int .u64 ((f j:Nat):Int):=by simp[limL,List.getD_eq_getElem?_getD,h]
theorem qp2 (n:Nat) (f:Nat→Nat):(limL n f).all Value.oneCell'=true:=by simp[limL,Value.oneCell']
theorem qdj {n:Nat} {f g:Nat→Nat} (h:∀ j,j<n→f j=g j):limL n f=limL n g:=List.map_congr_left fun j hj=>by rw[h j (by simpa using hj)]
theorem qby (n:Nat) (f:Nat→Nat):flatB (.agg ⟨limL n f⟩) n=true:=by
 simp[flatB,qee,qp2]
theorem qab (n:Nat) (f:Nat→Nat):qam (.agg ⟨limL n f⟩)=true:=by
 simp[qam,limL,qa3]
def wiL (neg over:Bool) (v:Nat):List Value:=.bool neg :: .bool over::limL 16 (dg v)
theorem wi_is (neg over:Bool) (v:Nat):wi neg over v=⟨wiL neg over v⟩:=by
 apply Array.toList_inj.1
 simp[wi,wiL,sz,q32]
theorem qa6 (neg over:Bool) (v:Nat):flatB (.agg ⟨wiL neg over v⟩) 18=true:=by
 simp[flatB,wiL,qee,qp2,Value.oneCell']
theorem qac (neg over:Bool) (v:Nat):qam (.agg ⟨wiL neg over v⟩)=true:=by
 simp[qam,wiL,limL,qa3]
theorem qp3 {F:Nat→Prop} {ρ:Nat→Nat×Nat}:∀ {vs xs:List Value},All2 (Den F ρ) vs xs→xs=vs.map (den ρ)
 | [],[],_=>rfl
 | [],_::_,h=>h.elim
 | _::_,[],h=>h.elim
 | v::vs,x::xs,h=>by rw[List.map_cons,qp3 h.2,h.1.self]
theorem qev {P:Program} {g:FuncId} {vs:List Value} {h:Hp} {v:Value} (rh:List Nat) (hv:qap v=true) (hr:∀ xs w,(callFunc g xs).run P w=.ok (.enter g xs) w)
  (hc:∀ (ρ:Nat→Nat×Nat) (w:World),(∀ i∈rh,∀ c,h[i]?=some (some c)→∀ j,j<c.n→w.cell? ⟨(ρ i).1,(ρ i).2+j,none⟩=some (den1 ρ (c.f j)))→Calls P g ⟨vs.map (den ρ)⟩ w fun e w'=>e=.returned v∧Below w.heap.size w w'):qad P g vs h v [] rh:=
 fun h₂ hrh _ X ρ w xs H hx=>by
  have hxs:xs=vs.map (den ρ):=qp3 hx
  subst hxs
  refine .inr ⟨hr _ w,(hc ρ w (fun i hi c hic j hj=>?_)).mono ?_⟩
  ·obtain⟨x,hx,hd⟩:=H.cell i c ((hrh i hi).trans hic) j hj
   rw[hx,hd.self]
  ·rintro e w' ⟨rfl,hb⟩
   exact⟨v,rfl,ρ,AgreeOn.refl _ _,H.frame hb,fun r _=>qbg hv r⟩
def Has (h:Hp) (i f v:Nat):Prop:=∃ c,h[i]?=some (some c)∧f+16≤c.n∧∀ j,j<16→c.f (f+j)=.int .u64 ((dg v j:Nat):Int)
theorem Has.digs {h:Hp} {i f v:Nat} (hh:Has h i f v) {ρ:Nat→Nat×Nat} {w:World} {rh:List Nat} (hi:i∈rh) (hc:∀ i∈rh,∀ c,h[i]?=some (some c)→∀ j,j<c.n→w.cell? ⟨(ρ i).1,(ρ i).2+j,none⟩=some (den1 ρ (c.f j))):Digs w (ρ i).1 ((ρ i).2+f) v:=fun j hj=>by
 obtain⟨c,h1,h2,h3⟩:=hh
 rw[Nat.add_assoc,hc i hi c h1 (f+j) (by omega),h3 j hj]
 rfl
theorem qce {h:Hp} {i v:Nat} {o neg over:Bool} (hi:h[i]?=some (some ⟨o,18,[(0,18,.agg ⟨wiL neg over v⟩)]⟩)):Has h i 2 v:=
 ⟨_,hi,nlr _,fun j hj=>by
  show qa5 _ _=_
  rw[qao,if_pos (by omega)]
  simp only[cellIn,wiL,Nat.sub_zero]
  rw[show 2+j=j+1+1 from by omega]
  simp only[List.getD_cons_succ]
  exact qef hj⟩
theorem q33 (i f v:Nat) (h:Hp) (hh:Has h i f v):qad Tryz.prog 173 [.pointer (some ⟨i,f,some 0⟩)] h (.int .i64 (nd v)) [] [i]:=
 qev [i] rfl (Tryz.call173) fun ρ w hc=>(qgd (ρ i).1 ((ρ i).2+f) v w (hh.digs (by simp) hc)).mono (by rintro e w' ⟨he,rfl⟩;exact⟨he,Below.refl _ _⟩)
theorem qd8 {o:Bool} {n p q:Nat} {f:Nat→Nat} (hp:p<n) (hq:q=p):Reads ⟨o,n,[(0,n,.agg ⟨limL n f⟩)]⟩ q false 1 (.int .u64 ((f p:Nat):Int)):=by
 subst hq
 refine⟨hp,rfl,?_⟩
 show qa5 _ _=_
 rw[qao,if_pos (by omega)]
 exact qef hp
theorem qk2 {o neg over:Bool} {v p q:Nat} (hp:p<16) (hq:q=2+p):Reads ⟨o,18,[(0,18,.agg ⟨wiL neg over v⟩)]⟩ q false 1 (.int .u64 ((dg v p:Nat):Int)):=by
 subst hq
 refine⟨by show 2+p<18;omega,rfl,?_⟩
 show qa5 _ _=_
 rw[qao,if_pos (by omega)]
 simp only[cellIn,wiL,Nat.sub_zero]
 rw[show 2+p=p+1+1 from by omega]
 simp only[List.getD_cons_succ]
 exact qef hp
theorem qc6 {n p q:Nat} {f g:Nat→Nat} {x:Int} (hp:p<n) (hq:q=p) (hx:x=((g p:Nat):Int)) (hg:∀ k,k<n→k≠p→g k=f k):Writes ⟨true,n,[(0,n,.agg ⟨limL n f⟩)]⟩ q 1 (.int .u64 x) ⟨true,n,[(0,n,.agg ⟨limL n g⟩)]⟩:=by
 subst hq
 refine⟨rfl,hp,rfl,fun k hk=>?_⟩
 have hk:k<n:=hk
 have e:∀ f:Nat→Nat,(⟨true,n,[(0,n,.agg ⟨limL n f⟩)]⟩:Chunk).f k=.int .u64 ((f k:Nat):Int):=fun f=>by
  show qa5 _ _=_
  rw[qao,if_pos (by omega)]
  exact qef hk
 rw[e,e]
 by_cases h:k=q
 ·subst h;rw[if_pos (by omega),hx];rfl
 ·rw[if_neg (by omega),hg k hk h]
theorem q34 (x y:Nat) (h:Hp) (hx:x<18446744073709551616) (hy:y<18446744073709551616):qad Tryz.prog 174 [.int .u64 x,.int .u64 y] h (.tuple #[.int .u64 ((x*y / 18446744073709551616:Nat):Int),.int .u64 ((x*y%18446744073709551616:Nat):Int)]) [] []:=
 qai rfl rfl (Tryz.call174 _) fun w=>(Tryz.bits_Mul64 x y hx hy w).mono (by rintro e w' ⟨he,rfl⟩;exact⟨he,Below.refl _ _⟩)
theorem q0l (x y c:Int) (h:Hp) (hx:0≤x) (hx':x<18446744073709551616) (hy:0≤y) (hy':y<18446744073709551616) (hc0:0≤c) (hc:c≤1):qad Tryz.prog 175 [.int .u64 x,.int .u64 y,.int .u64 c] h (.tuple #[.int .u64 ((x+y+c)%18446744073709551616),.int .u64 ((x+y+c) / 18446744073709551616)]) [] []:=
 qpn rfl rfl fun w=>YtdljelmbjdjpjaaGreat.add64 x y c hx hx' hy hy' hc0 hc w
open Go.RowKit
theorem Tryz.info_u64:(Tryz.prog.info? 58).isSome=true:=by kernel_rfl
theorem Tryz.cells_u64:Tryz.prog.cellsOf 58=1:=by kernel_rfl
theorem qhg (w:World) {xs:Array Value} {off:Nat} {v:Value} (hx:xs[off]?=some v):(part 58 xs off).run Tryz.prog w=.ok v w:=by
 have ha:(isAgg 58).run Tryz.prog w=.ok false w:=by
  unfold isAgg
  rw[Sem.run_bind,run_underlying Tryz.underlying58 w]
  rfl
 simp[part,Sem.run_bind,ha,hx]
theorem qim (d n:Nat) (f g:Nat→Nat) (w:World):∀ is:List Nat,(∀ i∈is,i<n)→(Op.eqItems (d+1) 58 1 (lim n f) (lim n g) is).run Tryz.prog w=.ok (is.all fun i=>f i==g i) w
 | [],_=>by simp[Op.eqItems]
 | i::is,h=>by
  have ih:=qim d n f g w is (fun j hj=>h j (by simp[hj]))
  have hi:=h i (by simp)
  have e1:=qhg w (qdx n f i hi)
  have e2:=qhg w (qdx n g i hi)
  have e3:=run_equalIn_int (P:=Tryz.prog) w d 58 .u64 .u64 (f i) (g i) Tryz.underlying58
  simp only[Op.eqItems,Sem.run_bind,Nat.mul_one,e1,e2,e3,Result.andThen_ok]
  by_cases hfg:f i=g i
  ·simp[hfg,ih]
  ·have:((f i:Nat):Int)≠(g i:Nat):=by omega
   simp[hfg,this]
theorem qfc (u v:Nat) (hu:u<Bs^16) (hv:v<Bs^16) (w:World):(Op.equalIn 10000 134 (.agg (sz u)) (.agg (sz v))).run Tryz.prog w=.ok (decide (u=v)) w:=by
 obtain⟨i,hi⟩:=Option.isSome_iff_exists.1 Tryz.info_u64
 rw[run_equalIn_array (P:=Tryz.prog) w 9999 (sz u) (sz v) Tryz.underlying134 hi,Tryz.cells_u64]
 unfold sz
 rw[qim 9998 16 _ _ w (List.range 16) (fun i hi=>by simpa using hi)]
 congr 1
 by_cases h:u=v
 ·subst h;simp
 ·simp only[h,decide_false]
  rw[←Bool.not_eq_true,List.all_eq_true]
  intro hall
  exact h (qxg 16 u v hu hv fun j hj=>by simpa using hall j (by simpa using hj))
theorem qre (u:Nat) (hu:u<Bs^16) (w:World):(Op.equalIn 10000 134 (.agg (sz u)) (.agg #[.int .u64 0,.int .u64 0,.int .u64 0,.int .u64 0,.int .u64 0,.int .u64 0,.int .u64 0,.int .u64 0,.int .u64 0,.int .u64 0,.int .u64 0,.int .u64 0,.int .u64 0,.int .u64 0,.int .u64 0,.int .u64 0])).run Tryz.prog w=.ok (decide (u=0)) w:=by
 rw[←qdi]
 exact qfc u 0 hu (qbw 16) w
theorem qt4 (f:Nat→Nat):lim 16 f = #[.int .u64 (f 0:Nat),.int .u64 (f 1:Nat),.int .u64 (f 2:Nat),.int .u64 (f 3:Nat),.int .u64 (f 4:Nat),.int .u64 (f 5:Nat),.int .u64 (f 6:Nat),.int .u64 (f 7:Nat),.int .u64 (f 8:Nat),.int .u64 (f 9:Nat),.int .u64 (f 10:Nat),.int .u64 (f 11:Nat),.int .u64 (f 12:Nat),.int .u64 (f 13:Nat),.int .u64 (f 14:Nat),.int .u64 (f 15:Nat)]:=by
 unfold lim
 rw[show List.range 16=[0,1,2,3,4,5,6,7,8,9,10,11,12,13,14,15] from rfl]
 rfl
theorem q35 (v:Nat):sz v = #[.int .u64 (dg v 0:Nat),.int .u64 (dg v 1:Nat),.int .u64 (dg v 2:Nat),.int .u64 (dg v 3:Nat),.int .u64 (dg v 4:Nat),.int .u64 (dg v 5:Nat),.int .u64 (dg v 6:Nat),.int .u64 (dg v 7:Nat),.int .u64 (dg v 8:Nat),.int .u64 (dg v 9:Nat),.int .u64 (dg v 10:Nat),.int .u64 (dg v 11:Nat),.int .u64 (dg v 12:Nat),.int .u64 (dg v 13:Nat),.int .u64 (dg v 14:Nat),.int .u64 (dg v 15:Nat)]:=qt4 (dg v)
theorem wi_of (neg over:Bool) (f:Nat→Nat) : #[Value.bool neg,Value.bool over]++lim 16 f = #[.bool neg,.bool over,.int .u64 (f 0:Nat),.int .u64 (f 1:Nat),.int .u64 (f 2:Nat),.int .u64 (f 3:Nat),.int .u64 (f 4:Nat),.int .u64 (f 5:Nat),.int .u64 (f 6:Nat),.int .u64 (f 7:Nat),.int .u64 (f 8:Nat),.int .u64 (f 9:Nat),.int .u64 (f 10:Nat),.int .u64 (f 11:Nat),.int .u64 (f 12:Nat),.int .u64 (f 13:Nat),.int .u64 (f 14:Nat),.int .u64 (f 15:Nat)]:=by
 rw[qt4];simp
theorem q36 (neg over:Bool) (v:Nat):wi neg over v = #[.bool neg,.bool over,.int .u64 (dg v 0:Nat),.int .u64 (dg v 1:Nat),.int .u64 (dg v 2:Nat),.int .u64 (dg v 3:Nat),.int .u64 (dg v 4:Nat),.int .u64 (dg v 5:Nat),.int .u64 (dg v 6:Nat),.int .u64 (dg v 7:Nat),.int .u64 (dg v 8:Nat),.int .u64 (dg v 9:Nat),.int .u64 (dg v 10:Nat),.int .u64 (dg v 11:Nat),.int .u64 (dg v 12:Nat),.int .u64 (dg v 13:Nat),.int .u64 (dg v 14:Nat),.int .u64 (dg v 15:Nat)]:=wi_of neg over (dg v)
theorem qn3 (neg over:Bool):wi neg over 0 = #[.bool neg,.bool over,.int .u64 0,.int .u64 0,.int .u64 0,.int .u64 0,.int .u64 0,.int .u64 0,.int .u64 0,.int .u64 0,.int .u64 0,.int .u64 0,.int .u64 0,.int .u64 0,.int .u64 0,.int .u64 0,.int .u64 0,.int .u64 0]:=by
 unfold wi;rw[qdi];rfl
def qew:Nat:=1023
def Top:Nat:=2^qew
theorem q0m (n:Nat):Bs^n=2^(64*n):=by
 rw[Nat.pow_mul]
theorem q0n (a b:Nat) (h:a<b):2^a<2^b:=Nat.pow_lt_pow_right (by decide) h
theorem q37 (n:Nat) (h:qew<64*n):Top<Bs^n:=by
 rw[q0m];exact q0n _ _ h
theorem qbd:Top<Bs^16:=q37 16 (by decide)
theorem qin (v:Nat):∀ n,v<Bs^n→v<Bs^ndTo v n
 | 0,h=>h
 | n+1,h=>by
  rw[ndTo]
  split
  ·rename_i hz
   refine qin v n ?_
   have s:=qct v n
   rw[hz,Nat.div_eq_of_lt h] at s
   exact(Nat.div_eq_zero_iff_lt (qbw n)).1 (by omega)
  ·exact h
theorem qp4 (v:Nat):∀ n,ndTo v n=0∨dg v (ndTo v n-1)≠0
 | 0=>.inl rfl
 | n+1=>by
  rw[ndTo]
  split
  ·exact qp4 v n
  ·rename_i h;exact .inr h
theorem qd0:∀ (f x:Nat),x<2^f→x<2^Lib.bitLenAux f x∧(x≠0→2^(Lib.bitLenAux f x-1)≤x∧0<Lib.bitLenAux f x)
 | 0,x,h=>by
  have:x=0:=by simpa using h
  subst this
  exact⟨by simp[Lib.bitLenAux],fun h=>absurd rfl h⟩
 | f+1,x,h=>by
  rw[Lib.bitLenAux]
  split
  ·rename_i hz;subst hz;exact⟨by decide,fun h=>absurd rfl h⟩
  ·rename_i hz
   obtain⟨h1,h2⟩:=qd0 f (x / 2) (by rw[Nat.pow_succ] at h;omega)
   refine⟨by rw[Nat.add_comm,Nat.pow_succ];omega,fun _=>⟨?_,by omega⟩⟩
   rw[show 1+Lib.bitLenAux f (x / 2)-1=Lib.bitLenAux f (x / 2) from by omega]
   by_cases hh:x / 2=0
   ·have:Lib.bitLenAux f (x / 2)=0:=by rw[hh];cases f<;>simp[Lib.bitLenAux]
    rw[this];simp;omega
   ·obtain⟨h3,h4⟩:=h2 hh
    obtain⟨m,hm⟩:∃ m,Lib.bitLenAux f (x / 2)=m+1:=⟨_,(Nat.succ_pred_eq_of_pos h4).symm⟩
    rw[hm] at h3 ⊢
    rw[Nat.pow_succ]
    simp at h3
    omega
theorem qn4 (v:Nat) (hv:v<Bs^16):v<2^bl v∧(v≠0→2^(bl v-1)≤v∧0<bl v):=by
 have hlt:=qin v 16 hv
 have htop:=qp4 v 16
 have e0:ndTo v 16=nd v:=rfl
 rw[e0] at hlt htop
 rcases htop with h0|h0
 ·have hb:bl v=0:=by unfold bl;rw[if_pos h0]
  rw[h0] at hlt
  have:v=0:=by simpa using hlt
  subst this
  exact⟨by rw[hb];decide,fun h=>absurd rfl h⟩
 ·by_cases hz:nd v=0
  ·rw[hz] at hlt
   have:v=0:=by simpa using hlt
   subst this
   exact absurd (qfr _) h0
  obtain⟨n,hn⟩:∃ n,nd v=n+1:=⟨nd v-1,by omega⟩
  have hb:bl v=64*n+lb (dg v n):=by unfold bl;rw[if_neg hz,hn];rfl
  rw[hn] at hlt h0
  have h0':dg v n≠0:=h0
  have hd:v / Bs^n=dg v n:=by
   have s:=qct v n
   rw[Nat.div_eq_of_lt hlt] at s
   omega
  obtain⟨b1,b2⟩:=qd0 64 (dg v n) (dg_lt v n)
  obtain⟨b3,b4⟩:=b2 h0'
  have e1:Lib.bitLenAux 64 (dg v n)=lb (dg v n):=rfl
  rw[e1] at b1 b3 b4
  have eB:=q0m n
  rw[hb]
  refine⟨?_,fun _=>⟨?_,by omega⟩⟩
  ·rw[Nat.pow_add,←eB,Nat.mul_comm,←Nat.div_lt_iff_lt_mul (qbw n),hd];exact b1
  ·rw[show 64*n+lb (dg v n)-1=64*n+(lb (dg v n)-1) from by omega,Nat.pow_add,←eB,Nat.mul_comm,←Nat.le_div_iff_mul_le (qbw n),hd]
   exact b3
theorem qge (v k:Nat) (hv:v<Bs^16) (h:v<2^k):bl v≤k:=by
 obtain⟨h1,h2⟩:=qn4 v hv
 by_cases hz:v=0
 ·subst hz
  have:bl 0=0:=by decide
  omega
 ·obtain⟨h3,h4⟩:=h2 hz
  have:bl v-1<k:=(Nat.pow_lt_pow_iff_right (by decide)).1 (Nat.lt_of_le_of_lt h3 h)
  omega
theorem qxk (x:Int):Tryz.prog.built 134 [(0,.int .u64 x)]=some #[.int .u64 x,.int .u64 0,.int .u64 0,.int .u64 0,.int .u64 0,.int .u64 0,.int .u64 0,.int .u64 0,.int .u64 0,.int .u64 0,.int .u64 0,.int .u64 0,.int .u64 0,.int .u64 0,.int .u64 0,.int .u64 0]:=by kernel_rfl
theorem qhv (v:Nat) (h:v<18446744073709551616):Tryz.prog.built 134 [(0,.int .u64 v)]=some (sz v):=by
 rw[qxj v h];exact qxk _
theorem qio:Tryz.prog.built 134 []=some (sz 0):=by
 rw[qdi];kernel_rfl
theorem qgf (neg:Bool) (v:Nat):Tryz.prog.built 136 [(0,.bool neg),(2,.agg (sz v))]=some (wi neg false v):=by
 rw[q35,q36];kernel_rfl
def zi (z:Int):Array Value:=wi (decide (z<0)) false z.natAbs
@[simp] theorem zi_size (z:Int):(zi z).size=18:=wi_size _ _ _
theorem q1u (v:Nat) (h:0<v∧v≤9223372036854775808) (w:World):Calls Tryz.prog 104 #[.int .i64 (-(v:Int))] w fun e w'=>e=.returned (.agg (wi true false v))∧Below w.heap.size w w':=by
 have hB:Below w.heap.size w w:=Below.refl _ _
 have hr:=IsRow.new w (wi false false 0) 136
 rw[qn3] at hr
 obtain⟨h0,h1⟩:=h
 have hwr:IntKind.u64.wrap (-IntKind.u64.wrap (-(v:Int)))=v:=by
  show((-((-(v:Int))%18446744073709551616))%18446744073709551616:Int)=v
  omega
 have hb1:Tryz.prog.built 134 [(0,.int .u64 (IntKind.u64.wrap (-IntKind.u64.wrap (-(v:Int)))))]=some (sz v):=by rw[hwr];exact qhv v (by omega)
 clear hwr
 have hn : -(v:Int)<0:=by omega
 have hb2:=qgf true v
 go_enter Tryz.func104,Tryz.ntmps104
 go_wp2_with (first|(refine qdq (ty:=134) rfl ?_;refine qc2 ?_ 134 0 _ rfl (.int .u64 (IntKind.u64.wrap (-IntKind.u64.wrap (-(v:Int))))) rfl (sz v) (hb1) ?_;(focus rfl))|(refine qdq (ty:=136) rfl ?_;refine qgb ?_ 136 0 2 _ _ rfl (.bool true) (.agg (sz v)) rfl rfl (wi true false v) (hb2) ?_;(focus rfl))|(refine qbc (ty:=136) rfl ?_;refine wpList_store_row ?_ 136 _ _ rfl (w.heap.size) (wi true false v) rfl rfl _ (_) (hr) (by rw[wi_size];kernel_rfl) (by simp) (qil _ _ _) ?_;(focus rfl))|fail)
 exact bodyPost_ret (results_cell_row Tryz.results104 _ _ w.heap.size _ _ _ _ rfl (hr.row _) Tryz.underlying136 rfl (by rw[wi_size];kernel_rfl)) rfl ⟨rfl,below_setRow (hB.alloc (nlr _) _) (nlr _) _⟩
theorem qt5 (v:Nat) (h:v<9223372036854775808) (w:World):Calls Tryz.prog 104 #[.int .i64 ((v:Int))] w fun e w'=>e=.returned (.agg (wi false false v))∧Below w.heap.size w w':=by
 have hB:Below w.heap.size w w:=Below.refl _ _
 have hr:=IsRow.new w (wi false false 0) 136
 rw[qn3] at hr
 have hwr:IntKind.u64.wrap (v:Int)=v:=by
  show((v:Int)%18446744073709551616:Int)=v
  omega
 have hb1:Tryz.prog.built 134 [(0,.int .u64 (v:Int))]=some (sz v):=qhv v (by omega)
 have hn:¬ (v:Int)<0:=by omega
 have hb2:=qgf false v
 go_enter Tryz.func104,Tryz.ntmps104
 go_wp2_with (first|(refine qdq (ty:=134) rfl ?_;refine qc2 ?_ 134 0 _ rfl (.int .u64 (v:Int)) rfl (sz v) (hb1) ?_;(focus rfl))|(refine qdq (ty:=136) rfl ?_;refine qgb ?_ 136 0 2 _ _ rfl (.bool false) (.agg (sz v)) rfl rfl (wi false false v) (hb2) ?_;(focus rfl))|(refine qbc (ty:=136) rfl ?_;refine wpList_store_row ?_ 136 _ _ rfl (w.heap.size) (wi false false v) rfl rfl _ (_) (hr) (by rw[wi_size];kernel_rfl) (by simp) (qil _ _ _) ?_;(focus rfl))|fail)
 exact bodyPost_ret (results_cell_row Tryz.results104 _ _ w.heap.size _ _ _ _ rfl (hr.row _) Tryz.underlying136 rfl (by rw[wi_size];kernel_rfl)) rfl ⟨rfl,below_setRow (hB.alloc (nlr _) _) (nlr _) _⟩
theorem q1v (n:Int) (h0 : -9223372036854775808≤n) (h1:n<9223372036854775808) (w:World):Calls Tryz.prog 104 #[.int .i64 n] w fun e w'=>e=.returned (.agg (zi n))∧Below w.heap.size w w':=by
 by_cases hn:n<0
 ·have:=q1u n.natAbs (by omega) w
  rw[show -(n.natAbs:Int)=n from by omega] at this
  unfold zi;rw[decide_eq_true hn];exact this
 ·have:=qt5 n.natAbs (by omega) w
  rw[show(n.natAbs:Int)=n from by omega] at this
  unfold zi;rw[decide_eq_false hn];exact this
theorem qp5 (neg:Bool) (v:Nat) (hv:v<Top) (w:World):Calls Tryz.prog 176 #[.bool neg,.agg (sz v)] w fun e w'=>e=.returned (.agg (wi (neg&&decide (v≠0)) false v))∧Below w.heap.size w w':=by
 have hv16:v<Bs^16:=Nat.lt_trans hv qbd
 have hbl:bl v≤1023:=qge v qew hv16 hv
 have hB:Below w.heap.size w w:=Below.refl _ _
 have hr:=(IsRow.new w (sz v) 134).alloc (.cells (wi false false 0) 136)
 have hr2:=IsRow.new (w.alloc (.cells (sz v) 134)) (wi false false 0) 136
 have hdg:=Digs.of_sz hr
 rw[qn3] at hdg hr hr2
 have HD:=Lib.hid hdg
 clear hdg
 have hB2:Below w.heap.size w ((w.alloc (.cells (sz v) 134)).alloc (.cells #[.bool false,.bool false,.int .u64 0,.int .u64 0,.int .u64 0,.int .u64 0,.int .u64 0,.int .u64 0,.int .u64 0,.int .u64 0,.int .u64 0,.int .u64 0,.int .u64 0,.int .u64 0,.int .u64 0,.int .u64 0,.int .u64 0,.int .u64 0] 136)):=by
  refine Below.alloc (Below.alloc hB ?_ _) ?_ _
  ·exact nlr _
  ·simp
 go_enter Tryz.func176,Tryz.ntmps176
 go_wp2_with fail
 refine(qhu w.heap.size 0 v _ HD.out).mono ?_
 rintro e w' ⟨rfl,rfl⟩
 clear HD
 cases neg
 ·go_wp2_with fail
  rw[show(w.alloc (.cells (sz v) 134)).heap.size=w.heap.size+1 from by simp] at hr2
  generalize hW:((w.alloc (.cells (sz v) 134)).alloc (.cells #[.bool false,.bool false,.int .u64 0,.int .u64 0,.int .u64 0,.int .u64 0,.int .u64 0,.int .u64 0,.int .u64 0,.int .u64 0,.int .u64 0,.int .u64 0,.int .u64 0,.int .u64 0,.int .u64 0,.int .u64 0,.int .u64 0,.int .u64 0] 136))=W at hr hr2 hB2 ⊢
  clear hW
  have heq:=qfc v 0 hv16 (qbw 16) W.drew
  clear heq
  refine wp_region_still_tail 8 (by kernel_rfl) (by kernel_rfl) ?_
  simp only[List.take_succ_cons,List.take_zero,List.drop_succ_cons,List.drop_zero]
  repeat (first|(refine qn1 (ty:=134) rfl ?_;refine qcv ?_ 134 _ rfl (w.heap.size) rfl _ (sz v) _ _ (hr.drew) Tryz.underlying134 rfl (by rw[sz_size];kernel_rfl) ?_;(focus (first|rfl|(go_simp;done))))|(refine qfb (ty:=134) rfl ?_;refine qdy ?_ 134 rfl (sz 0) (qio) ?_;(focus (first|rfl|(go_simp;done))))|(refine qfb (ty:=136) rfl ?_;refine qdz ?_ 136 0 2 _ _ rfl (.bool false) (.agg (sz v)) rfl rfl (wi false false v) (qgf _ _) ?_;(focus (first|rfl|(go_simp;done))))|still_step)
  refine wpStill_nil ?_
  change wpList _ _ _ _ _ W.drew
  go_wp2_with (refine qbc (ty:=136) rfl ?_;refine wpList_store_row ?_ 136 _ _ rfl (w.heap.size+1) (wi false false v) rfl rfl _ (_) (hr2.drew) (by rw[wi_size];kernel_rfl) (by simp) (qil _ _ _) ?_;(focus rfl))
  exact bodyPost_ret (results_cell_row Tryz.results176 _ _ (w.heap.size+1) _ _ _ _ rfl (hr2.drew.row _) Tryz.underlying136 rfl (by rw[wi_size];kernel_rfl)) rfl ⟨by rw[show(false&&decide (v≠0))=false from by simp],below_setRow hB2.drew (by omega) _⟩
 ·by_cases hz:v=0
  ·have HZ:=Lib.hid hz
   clear hz
   go_wp2_with fail
   rw[show(w.alloc (.cells (sz v) 134)).heap.size=w.heap.size+1 from by simp] at hr2
   generalize hW:((w.alloc (.cells (sz v) 134)).alloc (.cells #[.bool false,.bool false,.int .u64 0,.int .u64 0,.int .u64 0,.int .u64 0,.int .u64 0,.int .u64 0,.int .u64 0,.int .u64 0,.int .u64 0,.int .u64 0,.int .u64 0,.int .u64 0,.int .u64 0,.int .u64 0,.int .u64 0,.int .u64 0] 136))=W at hr hr2 hB2 ⊢
   clear hW
   have heq:=qfc v 0 hv16 (qbw 16) W.drew
   rw[decide_eq_true HZ.out] at heq
   refine wp_region_still_tail 8 (by kernel_rfl) (by kernel_rfl) ?_
   simp only[List.take_succ_cons,List.take_zero,List.drop_succ_cons,List.drop_zero]
   repeat (first|(refine qn1 (ty:=134) rfl ?_;refine qcv ?_ 134 _ rfl (w.heap.size) rfl _ (sz v) _ _ (hr.drew) Tryz.underlying134 rfl (by rw[sz_size];kernel_rfl) ?_;(focus (first|rfl|(go_simp;done))))|(refine qfb (ty:=134) rfl ?_;refine qdy ?_ 134 rfl (sz 0) (qio) ?_;(focus (first|rfl|(go_simp;done))))|(refine qfb (ty:=136) rfl ?_;refine qdz ?_ 136 0 2 _ _ rfl (.bool false) (.agg (sz v)) rfl rfl (wi false false v) (qgf _ _) ?_;(focus (first|rfl|(go_simp;done))))|still_step)
   refine wpStill_nil ?_
   change wpList _ _ _ _ _ W.drew
   go_wp2_with (refine qbc (ty:=136) rfl ?_;refine wpList_store_row ?_ 136 _ _ rfl (w.heap.size+1) (wi false false v) rfl rfl _ (_) (hr2.drew) (by rw[wi_size];kernel_rfl) (by simp) (qil _ _ _) ?_;(focus rfl))
   exact bodyPost_ret (results_cell_row Tryz.results176 _ _ (w.heap.size+1) _ _ _ _ rfl (hr2.drew.row _) Tryz.underlying136 rfl (by rw[wi_size];kernel_rfl)) rfl ⟨by rw[show(true&&decide (v≠0))=false from by simp[HZ.out]],below_setRow hB2.drew (by omega) _⟩
  ·have HZ:=Lib.hid hz
   clear hz
   go_wp2_with fail
   rw[show(w.alloc (.cells (sz v) 134)).heap.size=w.heap.size+1 from by simp] at hr2
   generalize hW:((w.alloc (.cells (sz v) 134)).alloc (.cells #[.bool false,.bool false,.int .u64 0,.int .u64 0,.int .u64 0,.int .u64 0,.int .u64 0,.int .u64 0,.int .u64 0,.int .u64 0,.int .u64 0,.int .u64 0,.int .u64 0,.int .u64 0,.int .u64 0,.int .u64 0,.int .u64 0,.int .u64 0] 136))=W at hr hr2 hB2 ⊢
   clear hW
   have heq:=qfc v 0 hv16 (qbw 16) W.drew
   rw[decide_eq_false HZ.out] at heq
   refine wp_region_still_tail 8 (by kernel_rfl) (by kernel_rfl) ?_
   simp only[List.take_succ_cons,List.take_zero,List.drop_succ_cons,List.drop_zero]
   repeat (first|(refine qn1 (ty:=134) rfl ?_;refine qcv ?_ 134 _ rfl (w.heap.size) rfl _ (sz v) _ _ (hr.drew) Tryz.underlying134 rfl (by rw[sz_size];kernel_rfl) ?_;(focus (first|rfl|(go_simp;done))))|(refine qfb (ty:=134) rfl ?_;refine qdy ?_ 134 rfl (sz 0) (qio) ?_;(focus (first|rfl|(go_simp;done))))|(refine qfb (ty:=136) rfl ?_;refine qdz ?_ 136 0 2 _ _ rfl (.bool true) (.agg (sz v)) rfl rfl (wi true false v) (qgf _ _) ?_;(focus (first|rfl|(go_simp;done))))|still_step)
   refine wpStill_nil ?_
   change wpList _ _ _ _ _ W.drew
   go_wp2_with (refine qbc (ty:=136) rfl ?_;refine wpList_store_row ?_ 136 _ _ rfl (w.heap.size+1) (wi true false v) rfl rfl _ (_) (hr2.drew) (by rw[wi_size];kernel_rfl) (by simp) (qil _ _ _) ?_;(focus rfl))
   exact bodyPost_ret (results_cell_row Tryz.results176 _ _ (w.heap.size+1) _ _ _ _ rfl (hr2.drew.row _) Tryz.underlying136 rfl (by rw[wi_size];kernel_rfl)) rfl ⟨by rw[show(true&&decide (v≠0))=true from by simp[HZ.out]],below_setRow hB2.drew (by omega) _⟩
theorem q1w (v p q M:Nat) (hp:0<p) (hq:0<q) (hM:0<M):v*p / (M*(p*q))=v / (M*(p*q))*p+v / M%(p*q) / q:=by
 have h1:v / (M*(p*q))=v / M / (p*q):=by rw[Nat.div_div_eq_div_mul]
 have h2:=Nat.div_add_mod v M
 have h3:=Nat.div_add_mod (v / M) (p*q)
 have h4:v*p / (M*(p*q))=v / M / q:=by
  rw[show M*(p*q)=M*q*p from by rw[Nat.mul_comm p q,Nat.mul_assoc],Nat.mul_div_mul_right _ _ hp,Nat.div_div_eq_div_mul]
 rw[h4,h1]
 generalize v / M=x at *
 have h5:x=x / (p*q)*(p*q)+x%(p*q):=by rw[Nat.mul_comm];exact h3.symm
 conv=>lhs;rw[h5]
 rw[show x / (p*q)*(p*q)=q*(x / (p*q)*p) from by rw[←Nat.mul_assoc,Nat.mul_comm q,Nat.mul_assoc]]
 rw[Nat.mul_add_div hq]
theorem qgg (k:Nat) (hk:k<64):Bs=2^k*2^(64-k):=by rw[←Nat.pow_add,show k+(64-k)=64 from by omega]
theorem qxl (v k:Nat):dg (v*2^k) 0=dg v 0*2^k%18446744073709551616:=by
 unfold dg
 rw[Nat.pow_zero,Nat.div_one,Nat.div_one]
 show _=v%Bs*2^k%Bs
 rw[Nat.mod_mul_mod]
theorem qxm (v k n:Nat) (hk:k<64) (hn:0<n):dg (v*2^k) n=dg v n*2^k%18446744073709551616+dg v (n-1) / 2^(64-k):=by
 obtain⟨m,rfl⟩:∃ m,n=m+1:=⟨n-1,by omega⟩
 have hM:=qbw m
 have hp:0<2^k:=Nat.pow_pos (by decide)
 have hq:0<2^(64-k):=Nat.pow_pos (by decide)
 have g:=q1w v (2^k) (2^(64-k)) (Bs^m) hp hq hM
 have e:=qgg k hk
 have hd0:=Nat.mod_lt (v / Bs^m) qeu
 rw[show m+1-1=m from rfl]
 unfold dg
 show v*2^k / Bs^(m+1)%Bs=v / Bs^(m+1)%Bs*2^k%Bs+v / Bs^m%Bs / 2^(64-k)
 rw[Nat.pow_succ]
 generalize 2^k=p at *
 generalize 2^(64-k)=q at *
 rw[←e] at g
 rw[g]
 generalize v / (Bs^m*Bs)=x at *
 generalize v / Bs^m%Bs=d at *
 generalize Bs=B at *
 subst e
 have h1:d / q<p:=by rw[Nat.div_lt_iff_lt_mul hq];exact hd0
 have h2:x%(p*q)*p%(p*q)=x%q*p:=by
  rw[Nat.mod_mul_mod,Nat.mul_comm x p,Nat.mul_mod_mul_left,Nat.mul_comm]
 have h3:=Nat.div_add_mod x q
 rw[h2]
 have h4:x*p+d / q=p*q*(x / q)+(x%q*p+d / q):=by
  have:x*p=p*q*(x / q)+x%q*p:=by
   conv=>lhs;rw[←h3]
   rw[Nat.add_mul,Nat.mul_comm (q*(x / q)) p,←Nat.mul_assoc]
  omega
 rw[h4,Nat.mul_add_mod,Nat.mod_eq_of_lt]
 have h5:=Nat.mod_lt x hq
 have h6:(x%q+1)*p≤q*p:=Nat.mul_le_mul_right _ h5
 rw[Nat.add_mul] at h6
 rw[Nat.mul_comm p q]
 omega
theorem qg3 (x k:Nat):IntKind.u64.wrap ((x:Int)*2^k)=((x*2^k%18446744073709551616:Nat):Int):=by
 rw[IntKind.wrap_u64]
 generalize h:x*2^k=y
 have:(x:Int)*2^k=(y:Nat):=by rw[←h];exact_mod_cast rfl
 rw[this];omega
theorem qcf (x k:Nat):(x:Int) / 2^k=((x / 2^k:Nat):Int):=by exact_mod_cast rfl
theorem qt6 (a b:Nat) (ha:a<18446744073709551616) (hb:b<18446744073709551616):bits .or .u64 (a:Int) (b:Int)=((a ||| b:Nat):Int):=
 (bits_nat .u64 64 (by decide) (fun n h0 h1=>by rw[IntKind.wrap_u64];omega) a b ha hb).2
theorem or_up (x y k:Nat) (hk0:0<k) (hk:k<64) (hy:y<18446744073709551616) :
  bits .or .u64 (IntKind.u64.wrap ((x:Int)*2^k)) ((y:Int) / 2^(64-k))=((x*2^k%18446744073709551616+y / 2^(64-k):Nat):Int):=by
 have h1:=Nat.mod_lt (x*2^k) qeu
 have h2:y / 2^(64-k)<2^k:=by
  rw[Nat.div_lt_iff_lt_mul (Nat.pow_pos (by decide)),←qgg k hk];exact hy
 have h3:2^k≤2^63:=Nat.pow_le_pow_right (by decide) (by omega)
 rw[qg3,qcf,qt6 _ _ h1 (by omega)]
 have h4:x*2^k%18446744073709551616=2^k*(x%2^(64-k)):=by
  show x*2^k%Bs=_
  rw[qgg k hk,Nat.mul_comm x,Nat.mul_mod_mul_left]
 rw[h4,Nat.two_pow_add_eq_or_of_lt h2]
theorem qt7 (x y k:Nat) (hk0:0<k) (hk:k<64) (hx:x<18446744073709551616) :
  bits .or .u64 ((x:Int) / 2^k) (IntKind.u64.wrap ((y:Int)*2^(64-k)))=((x / 2^k+y*2^(64-k)%18446744073709551616:Nat):Int):=by
 have h1:=Nat.mod_lt (y*2^(64-k)) qeu
 have e:Bs=2^(64-k)*2^k:=by rw[Nat.mul_comm];exact qgg k hk
 have h2:x / 2^k<2^(64-k):=by
  rw[Nat.div_lt_iff_lt_mul (Nat.pow_pos (by decide)),←e];exact hx
 have h3:2^(64-k)≤2^63:=Nat.pow_le_pow_right (by decide) (by omega)
 rw[qg3,qcf,qt6 _ _ (by omega) h1]
 have h4:y*2^(64-k)%18446744073709551616=2^(64-k)*(y%2^k):=by
  show y*2^(64-k)%Bs=_
  rw[e,Nat.mul_comm y,Nat.mul_mod_mul_left]
 rw[h4,Nat.or_comm,←Nat.two_pow_add_eq_or_of_lt h2,Nat.add_comm]
open Go.RowKit
theorem qp6 (m:Nat) (f g:Nat→Nat) (i:Nat) (u:Value) (x:Int) (hi:i<m) (hv:x=((g i:Nat):Int)) (h:∀ j,j<m→j≠i→f j=g j):((lim m f).setIfInBounds i u).setIfInBounds i (.int .u64 x)=lim m g:=by
 rw[←qij m f g i x hi hv h]
 apply Array.ext_getElem?
 intro j
 simp only[Array.getElem?_setIfInBounds,Array.size_setIfInBounds]
 split<;>simp_all
def upTo (v k n:Nat):Nat→Nat:=fun j=>if n≤j then dg (v*2^k) j else 0
theorem qm0 (v k n j:Nat) (h:j≠n):upTo v k (n+1) j=upTo v k n j:=by
 unfold upTo;by_cases hj:n≤j<;>simp[hj,show n+1≤j↔n<j from Iff.rfl]<;>omega
theorem qt8 (v k n:Nat):upTo v k n n=dg (v*2^k) n:=by unfold upTo;rw[if_pos (nlr _)]
theorem q0o (g o v k:Nat) (hk:k<64) (w:World) (hd:Digs w g o v) :
  Calls Tryz.prog 217 #[.pointer (some ⟨g,o,none⟩),.int .i64 k] w fun e w'=>e=.returned (.agg (sz (v*2^k)))∧Below w.heap.size w w':=by
 have HD:=Lib.hid hd
 clear hd
 have q0:(k:Int) / 64=0:=by omega
 have q1:(k:Int).tdiv 64=0:=Int.tdiv_eq_zero_of_lt (by omega) (by omega)
 have q2:(k:Int).tmod 64=k:=Int.tmod_eq_of_lt (by omega) (by omega)
 have q3:(k:Int)%64=k:=by omega
 go_enter Tryz.func217,Tryz.ntmps217
 go_wp2
 go_loopw [6] (fun i wr=>∃ n:Nat,n≤16∧i=.int .i64 (n-1)∧IsRow wr (w.heap.size+1) 134 (lim 16 (upTo v k n))∧IsRow wr w.heap.size 134 (sz 0)∧Below w.heap.size w wr) (fun i _=>(intOf i+1).toNat)
 case atStart=>
  refine⟨16,by omega,rfl,?_,?_,by repeat (first|with_reducible exact Below.refl _ _|with_reducible refine Below.alloc ?_ (by first|(simp;done)|(simp;omega)|omega) _)⟩
  ·rw[qcp 16 (upTo v k 16) (dg 0) (fun j hj=>by rw[qfr];unfold upTo;rw[if_neg (by omega)])]
   rw[←qdi]
   have:=IsRow.new (w.alloc (.cells (sz 0) 134)) (sz 0) 134
   rw[show(w.alloc (.cells (sz 0) 134)).heap.size=w.heap.size+1 from by simp] at this
   exact this
  ·rw[←qdi]
   exact(IsRow.new _ _ _).alloc _
 case round=>
  obtain⟨n,hn,rfl,hrow,hres,hbel⟩:=hrel
  match n,hn with
  | 0,hn=>
   rw[qcp 16 (upTo v k 0) (dg (v*2^k)) (fun j hj=>by unfold upTo;rw[if_pos (by omega)])] at hrow
   have hrow':IsRow wr (w.heap.size+1) 134 (sz (v*2^k)):=hrow
   clear hrow
   go_wp2_with (first|(refine qck (ty:=134) rfl ?_;refine wpList_load_row ?_ 134 _ rfl (w.heap.size+1) rfl _ (sz (v*2^k)) _ _ (hrow') Tryz.underlying134 rfl (by rw[sz_size];kernel_rfl) ?_;(focus rfl))|(refine qbc (ty:=134) rfl ?_;refine wpList_store_row ?_ 134 _ _ rfl (w.heap.size) (sz (v*2^k)) rfl rfl _ (_) (hres) (by rw[sz_size];kernel_rfl) (by simp) (qb8 _) ?_;(focus rfl))|fail)
   exact bodyPost_ret (results_cell_row Tryz.results217 _ _ w.heap.size _ _ _ _ rfl (hres.row _) Tryz.underlying134 rfl (by rw[sz_size];kernel_rfl)) rfl ⟨rfl,below_setRow hbel (nlr _) _⟩
  | n+1,hn=>
   have e1:((n+1:Nat):Int)-1=n:=by omega
   rw[e1]
   have c1:wr.cell? ⟨g,o+n,none⟩=some (.int .u64 ((dg v n:Nat):Int)):=(hbel.cell (p:=⟨g,o+n,none⟩) HD.out.lt).trans (HD.out n (by omega))
   have c3:=hrow.cell (qdx 16 (upTo v k (n+1)) n (by omega))
   have f3:=hrow.frozen n
   have hz:=hbel.size
   have hrow1:=hrow.set n (.int .u64 (IntKind.u64.wrap (((dg v n:Nat):Int)*2^k)))
   have hres1:IsRow (wr.setCell ⟨w.heap.size+1,n,none⟩ (.int .u64 (IntKind.u64.wrap (((dg v n:Nat):Int)*2^k)))) w.heap.size 134 (sz 0):=hres.setOther _ _ (by simp)
   have hbel1:Below w.heap.size w (wr.setCell ⟨w.heap.size+1,n,none⟩ (.int .u64 (IntKind.u64.wrap (((dg v n:Nat):Int)*2^k)))):=hbel.setCell (by simp) _
   by_cases hk0:0<k∧0<n
   ·obtain⟨hk0,hn0⟩:=hk0
    go_wp2_with fail
    clear c1 c3 f3 hrow hres hbel
    generalize wr.setCell ⟨w.heap.size+1,n,none⟩ (.int .u64 (IntKind.u64.wrap (((dg v n:Nat):Int)*2^k)))=W at *
    have c2:W.cell? ⟨g,o+(n-1),none⟩=some (.int .u64 ((dg v (n-1):Nat):Int)):=(hbel1.cell (p:=⟨g,o+(n-1),none⟩) HD.out.lt).trans (HD.out (n-1) (by omega))
    have c3:W.cell? ⟨w.heap.size+1,n,none⟩=some (.int .u64 (IntKind.u64.wrap (((dg v n:Nat):Int)*2^k))):=hrow1.cell (by rw[Array.getElem?_setIfInBounds];simp;omega)
    have f3:=hrow1.frozen n
    go_region
    go_wp2_with fail
    go_roundw
    case rel=>
     refine⟨n,by omega,by go_num,?_,hres1.setOther _ _ (by simp),(hbel1.setCell (by simp) _).drew⟩
     have h2:=hrow1.set n (.int .u64 (bits .or .u64 (IntKind.u64.wrap (((dg v n:Nat):Int)*2^k)) (((dg v (n-1):Nat):Int) / 2^(64-k))))
     rw[qp6 16 (upTo v k (n+1)) (upTo v k n) n _ _ (by omega) (by rw[or_up _ _ _ hk0 hk (dg_lt _ _),qt8,qxm v k n hk hn0]) (fun j _ hj=>qm0 v k n j hj)] at h2
     exact h2
    case measure=>simp[intOf]
   ·have hval:IntKind.u64.wrap (((dg v n:Nat):Int)*2^k)=((upTo v k n n:Nat):Int):=by
     rw[qg3,qt8]
     by_cases hn0:n=0
     ·subst hn0;rw[qxl]
     ·obtain rfl:k=0:=by omega
      rw[Nat.pow_zero,Nat.mul_one,Nat.mul_one,Nat.mod_eq_of_lt (dg_lt v n)]
    rw[qij 16 (upTo v k (n+1)) (upTo v k n) n _ (by omega) hval (fun j _ hj=>qm0 v k n j hj)] at hrow1
    have HV:=Lib.hid hval
    clear hval
    by_cases hk1:0<k
    ·have hn0:¬ 0<n:=fun h=>hk0 ⟨hk1,h⟩
     have hn1:decide ((n:Int) > 0)=false:=decide_eq_false (by omega)
     clear hk0
     go_wp2_with fail
     go_roundw
     case rel=>exact⟨n,by omega,by go_num,hrow1,hres1,hbel1⟩
     case measure=>simp[intOf]
    ·clear hk0
     have hk2:decide ((k:Int) > 0)=false:=decide_eq_false (by omega)
     go_wp2_with fail
     go_roundw
     case rel=>exact⟨n,by omega,by go_num,hrow1,hres1,hbel1⟩
     case measure=>simp[intOf]
def qbf (v k n:Nat):Nat→Nat:=fun j=>if j<n then dg (v / 2^k) j else 0
theorem qeg (v k n j:Nat) (h:j≠n):qbf v k n j=qbf v k (n+1) j:=by
 unfold qbf;by_cases hj:j<n<;>simp[hj]<;>omega
theorem qgh (v k n:Nat):qbf v k (n+1) n=dg (v / 2^k) n:=by unfold qbf;rw[if_pos (by omega)]
theorem qxn (g o v k:Nat) (hk:k<64) (hv:v<Bs^16) (w:World) (hd:Digs w g o v) :
  Calls Tryz.prog 219 #[.pointer (some ⟨g,o,none⟩),.int .i64 k] w fun e w'=>(∃ b,e=.returned (.tuple #[.agg (sz (v / 2^k)),.bool b]))∧Below w.heap.size w w':=by
 have HD:=Lib.hid hd
 clear hd
 have q0:(k:Int) / 64=0:=by omega
 have q1:(k:Int).tdiv 64=0:=Int.tdiv_eq_zero_of_lt (by omega) (by omega)
 have q2:(k:Int).tmod 64=k:=Int.tmod_eq_of_lt (by omega) (by omega)
 have q3:(k:Int)%64=k:=by omega
 go_enter Tryz.func219,Tryz.ntmps219
 go_wp2
 have hrow0:IsRow ((w.alloc (.cells #[.int .u64 0,.int .u64 0,.int .u64 0,.int .u64 0,.int .u64 0,.int .u64 0,.int .u64 0,.int .u64 0,.int .u64 0,.int .u64 0,.int .u64 0,.int .u64 0,.int .u64 0,.int .u64 0,.int .u64 0,.int .u64 0] 134)).alloc (.cells #[.int .u64 0,.int .u64 0,.int .u64 0,.int .u64 0,.int .u64 0,.int .u64 0,.int .u64 0,.int .u64 0,.int .u64 0,.int .u64 0,.int .u64 0,.int .u64 0,.int .u64 0,.int .u64 0,.int .u64 0,.int .u64 0] 134)) (w.heap.size+1) 134 (sz 0):=by
  rw[←qdi]
  have:=IsRow.new (w.alloc (.cells (sz 0) 134)) (sz 0) 134
  rw[show(w.alloc (.cells (sz 0) 134)).heap.size=w.heap.size+1 from by simp] at this
  exact this
 have hres0:IsRow ((w.alloc (.cells #[.int .u64 0,.int .u64 0,.int .u64 0,.int .u64 0,.int .u64 0,.int .u64 0,.int .u64 0,.int .u64 0,.int .u64 0,.int .u64 0,.int .u64 0,.int .u64 0,.int .u64 0,.int .u64 0,.int .u64 0,.int .u64 0] 134)).alloc (.cells #[.int .u64 0,.int .u64 0,.int .u64 0,.int .u64 0,.int .u64 0,.int .u64 0,.int .u64 0,.int .u64 0,.int .u64 0,.int .u64 0,.int .u64 0,.int .u64 0,.int .u64 0,.int .u64 0,.int .u64 0,.int .u64 0] 134)) w.heap.size 134 (sz 0):=by
  rw[←qdi]
  exact(IsRow.new _ _ _).alloc _
 have hbel0:Below w.heap.size w ((w.alloc (.cells #[.int .u64 0,.int .u64 0,.int .u64 0,.int .u64 0,.int .u64 0,.int .u64 0,.int .u64 0,.int .u64 0,.int .u64 0,.int .u64 0,.int .u64 0,.int .u64 0,.int .u64 0,.int .u64 0,.int .u64 0,.int .u64 0] 134)).alloc (.cells #[.int .u64 0,.int .u64 0,.int .u64 0,.int .u64 0,.int .u64 0,.int .u64 0,.int .u64 0,.int .u64 0,.int .u64 0,.int .u64 0,.int .u64 0,.int .u64 0,.int .u64 0,.int .u64 0,.int .u64 0,.int .u64 0] 134)):=by
  repeat (first|with_reducible exact Below.refl _ _|with_reducible refine Below.alloc ?_ (by first|(simp;done)|(simp;omega)|omega) _)
 generalize ((w.alloc (.cells #[.int .u64 0,.int .u64 0,.int .u64 0,.int .u64 0,.int .u64 0,.int .u64 0,.int .u64 0,.int .u64 0,.int .u64 0,.int .u64 0,.int .u64 0,.int .u64 0,.int .u64 0,.int .u64 0,.int .u64 0,.int .u64 0] 134)).alloc (.cells #[.int .u64 0,.int .u64 0,.int .u64 0,.int .u64 0,.int .u64 0,.int .u64 0,.int .u64 0,.int .u64 0,.int .u64 0,.int .u64 0,.int .u64 0,.int .u64 0,.int .u64 0,.int .u64 0,.int .u64 0,.int .u64 0] 134))=W0 at hrow0 hres0 hbel0 ⊢
 go_loopw [7,13] (fun r i wr=>wr=W0∧r=.bool false∧i=.int .i64 0) (fun _ _ _=>0)
 case atStart=>exact⟨rfl,rfl,rfl⟩
 case round=>
  obtain⟨e0,rfl,rfl⟩:=hrel
  have e1:=e0.symm
  clear e0
  subst e1
  go_wp2_with fail
  go_loopw [9] (fun i wr=>∃ n:Nat,n≤16∧i=.int .i64 n∧IsRow wr (w.heap.size+1) 134 (lim 16 (qbf v k n))∧IsRow wr w.heap.size 134 (sz 0)∧Below w.heap.size w wr) (fun i _=>16-(intOf i).toNat)
  case atStart=>
   refine⟨0,by omega,rfl,?_,hres0,hbel0⟩
   rw[qcp 16 (qbf v k 0) (dg 0) (fun j hj=>by rw[qfr];unfold qbf;rw[if_neg (by omega)])]
   exact hrow0
  case round=>
   obtain⟨n,hn,rfl,hrow,hres,hbel⟩:=hrel
   by_cases hlt:n<16
   ·have c1:wr.cell? ⟨g,o+n,none⟩=some (.int .u64 ((dg v n:Nat):Int)):=(hbel.cell (p:=⟨g,o+n,none⟩) HD.out.lt).trans (HD.out n (by omega))
    have c3:=hrow.cell (qdx 16 (qbf v k n) n hlt)
    have f3:=hrow.frozen n
    have hz:=hbel.size
    have hrow1:=hrow.set n (.int .u64 (((dg v n:Nat):Int) / 2^k))
    have hres1:IsRow (wr.setCell ⟨w.heap.size+1,n,none⟩ (.int .u64 (((dg v n:Nat):Int) / 2^k))) w.heap.size 134 (sz 0):=hres.setOther _ _ (by simp)
    have hbel1:Below w.heap.size w (wr.setCell ⟨w.heap.size+1,n,none⟩ (.int .u64 (((dg v n:Nat):Int) / 2^k))):=hbel.setCell (by simp) _
    by_cases hk0:0<k∧n+1<16
    ·obtain⟨hk0,hn0⟩:=hk0
     go_wp2_with fail
     clear c1 c3 f3 hrow hres hbel
     generalize wr.setCell ⟨w.heap.size+1,n,none⟩ (.int .u64 (((dg v n:Nat):Int) / 2^k))=W at *
     have c2:W.cell? ⟨g,o+(n+1),none⟩=some (.int .u64 ((dg v (n+1):Nat):Int)):=(hbel1.cell (p:=⟨g,o+(n+1),none⟩) HD.out.lt).trans (HD.out (n+1) (by omega))
     have c3:W.cell? ⟨w.heap.size+1,n,none⟩=some (.int .u64 (((dg v n:Nat):Int) / 2^k)):=hrow1.cell (by rw[Array.getElem?_setIfInBounds];simp;omega)
     have f3:=hrow1.frozen n
     go_region
     go_wp2_with fail
     go_roundw
     case rel=>
      refine⟨n+1,by omega,by go_num,?_,hres1.setOther _ _ (by simp),(hbel1.setCell (by simp) _).drew⟩
      have h2:=hrow1.set n (.int .u64 (bits .or .u64 (((dg v n:Nat):Int) / 2^k) (IntKind.u64.wrap (((dg v (n+1):Nat):Int)*2^(64-k)))))
      rw[qp6 16 (qbf v k n) (qbf v k (n+1)) n _ _ (by omega) (by rw[qt7 _ _ _ hk0 hk (dg_lt _ _),qgh,qk1 v n k hk]) (fun j _ hj=>qeg v k n j hj)] at h2
      exact h2
     case measure=>simp[intOf];omega
    ·have hval:((dg v n:Nat):Int) / 2^k=((qbf v k (n+1) n:Nat):Int):=by
      rw[qcf,qgh,qk1 v n k hk]
      by_cases hn0:n+1<16
      ·obtain rfl:k=0:=by omega
       rw[show dg v (n+1)*2^(64-0)%18446744073709551616=0 from Nat.mul_mod_left _ _,Nat.add_zero]
      ·obtain rfl:n=15:=by omega
       rw[qii v 16 hv,Nat.zero_mul,Nat.zero_mod,Nat.add_zero]
     rw[qij 16 (qbf v k n) (qbf v k (n+1)) n _ (by omega) hval (fun j _ hj=>qeg v k n j hj)] at hrow1
     have HV:=Lib.hid hval
     clear hval
     by_cases hk1:0<k
     ·have hn0:¬ n+1<16:=fun h=>hk0 ⟨hk1,h⟩
      have hn1:decide ((n:Int)+1<16)=false:=decide_eq_false (by omega)
      clear hk0
      go_wp2_with fail
      go_roundw
      case rel=>exact⟨n+1,by omega,by go_num,hrow1,hres1,hbel1⟩
      case measure=>simp[intOf];omega
     ·clear hk0
      have hk2:decide ((k:Int) > 0)=false:=decide_eq_false (by omega)
      go_wp2_with fail
      go_roundw
      case rel=>exact⟨n+1,by omega,by go_num,hrow1,hres1,hbel1⟩
      case measure=>simp[intOf];omega
   ·obtain rfl:n=16:=by omega
    have c1:wr.cell? ⟨g,o,none⟩=some (.int .u64 ((dg v 0:Nat):Int)):=(hbel.cell (p:=⟨g,o,none⟩) HD.out.lt).trans (HD.out 0 (by omega))
    rw[qcp 16 (qbf v k 16) (dg (v / 2^k)) (fun j hj=>by unfold qbf;rw[if_pos hj])] at hrow
    have hrow':IsRow wr (w.heap.size+1) 134 (sz (v / 2^k)):=hrow
    clear hrow
    by_cases hk1:0<k
    ·go_wp2_with (first|(refine qck (ty:=134) rfl ?_;refine wpList_load_row ?_ 134 _ rfl (w.heap.size+1) rfl _ (sz (v / 2^k)) _ _ (hrow') Tryz.underlying134 rfl (by rw[sz_size];kernel_rfl) ?_;(focus rfl))|(refine qbc (ty:=134) rfl ?_;refine wpList_store_row ?_ 134 _ _ rfl (w.heap.size) (sz (v / 2^k)) rfl rfl _ (_) (hres) (by rw[sz_size];kernel_rfl) (by simp) (qb8 _) ?_;(focus rfl))|fail)
     have hl:=run_loadVar_row (P:=Tryz.prog) (wr.setRow w.heap.size (sz (v / 2^k))) w.heap.size _ 134 (sz (v / 2^k)) _ _ (hres.row _) Tryz.underlying134 rfl (by rw[sz_size];kernel_rfl)
     refine bodyPost_ret (v:=.tuple #[.agg (sz (v / 2^k)),.bool _]) (by simp[results,Tryz.results219,asAddr,hl];rfl) rfl ⟨⟨_,rfl⟩,below_setRow hbel (nlr _) _⟩
    ·have hk2:decide ((k:Int) > 0)=false:=decide_eq_false (by omega)
     go_wp2_with (first|(refine qck (ty:=134) rfl ?_;refine wpList_load_row ?_ 134 _ rfl (w.heap.size+1) rfl _ (sz (v / 2^k)) _ _ (hrow') Tryz.underlying134 rfl (by rw[sz_size];kernel_rfl) ?_;(focus rfl))|(refine qbc (ty:=134) rfl ?_;refine wpList_store_row ?_ 134 _ _ rfl (w.heap.size) (sz (v / 2^k)) rfl rfl _ (_) (hres) (by rw[sz_size];kernel_rfl) (by simp) (qb8 _) ?_;(focus rfl))|fail)
     have hl:=run_loadVar_row (P:=Tryz.prog) (wr.setRow w.heap.size (sz (v / 2^k))) w.heap.size _ 134 (sz (v / 2^k)) _ _ (hres.row _) Tryz.underlying134 rfl (by rw[sz_size];kernel_rfl)
     refine bodyPost_ret (v:=.tuple #[.agg (sz (v / 2^k)),.bool _]) (by simp[results,Tryz.results219,asAddr,hl];rfl) rfl ⟨⟨_,rfl⟩,below_setRow hbel (nlr _) _⟩
open Go.RowKit
theorem qp7 (lo y:Nat) (hlo:lo<18446744073709551616) (hy0:0<y) (hy:y<18446744073709551616) (w:World) :
  Calls Tryz.prog 215 #[.int .u64 0,.int .u64 lo,.int .u64 y] w fun e w'=>e=.returned (.tuple #[.int .u64 (lo / y:Nat),.int .u64 (lo%y:Nat)])∧Below w.heap.size w w':=by
 have hB:Below w.heap.size w w:=Below.refl _ _
 have h1:((y:Int)==0)=false:=by simp;omega
 have h2:¬ (y:Int)≤0:=by omega
 have h3:(lo:Int).tdiv y=((lo / y:Nat):Int):=rfl
 have h4:(lo:Int).tmod y=((lo%y:Nat):Int):=rfl
 have h5:lo / y<18446744073709551616:=Nat.lt_of_le_of_lt (Nat.div_le_self _ _) hlo
 have h6:lo%y<18446744073709551616:=Nat.lt_of_le_of_lt (Nat.mod_le _ _) hlo
 go_enter Tryz.func215,Tryz.ntmps215
 go_wp2_with fail
 go_region
 go_wp2_with fail
 have e1:IntKind.u64.wrap ((lo:Int) / (y:Int))=((lo / y:Nat):Int):=by
  rw[show(lo:Int) / (y:Int)=((lo / y:Nat):Int) from rfl,IntKind.wrap_u64]
  generalize lo / y=q at *
  omega
 have e2:(lo:Int)%(y:Int)=((lo%y:Nat):Int):=rfl
 exact bodyPost_ret (v:=.tuple #[.int .u64 (lo / y:Nat),.int .u64 (lo%y:Nat)]) (by simp[results,Tryz.results215,e1]) rfl ⟨rfl,hB.drew⟩
def dvTo (a b n:Nat):Nat→Nat:=fun j=>if n≤j then dg (a / b) j else 0
theorem qt9 (a b n j:Nat) (h:j≠n):dvTo a b (n+1) j=dvTo a b n j:=by
 unfold dvTo;by_cases hj:n≤j<;>simp[hj,show n+1≤j↔n<j from Iff.rfl]<;>omega
theorem q1x (a b n:Nat):dvTo a b n n=dg (a / b) n:=by unfold dvTo;rw[if_pos (nlr _)]
def rm (a b i:Nat):Nat:=a / Bs^i%b
theorem qua (a b:Nat):cm a b<0↔a<b:=by unfold cm;split<;>(try split)<;>omega
theorem q0p (b:Nat) (h0:0<b) (h:b<18446744073709551616):nd b=1:=by
 have key:∀ n,ndTo b (n+1)=1:=by
  intro n
  induction n with
  | zero=>
   rw[ndTo]
   rw[if_neg (by rw[qc1 b h];simp;omega)]
  | succ n ih=>rw[ndTo,if_pos (by rw[qc1 b h];simp),ih]
 exact key 15
theorem qjw (a b:Nat) (ha:a<Bs^16) (hb0:0<b) (hb:b<18446744073709551616)
  (H:∀ (i:Nat) (w:World),i<nd a→Calls Tryz.prog 215 #[.int .u64 (rm a b (i+1):Nat),.int .u64 (dg a i:Nat),.int .u64 (b:Nat)] w fun e w'=>
   e=.returned (.tuple #[.int .u64 (dg (a / b) i:Nat),.int .u64 (rm a b i:Nat)])∧Below w.heap.size w w') (w:World) :
  Calls Tryz.prog 182 #[.agg (sz a),.agg (sz b)] w fun e w'=>e=.returned (.tuple #[.agg (sz (a / b)),.agg (sz (a%b))])∧Below w.heap.size w w':=by
 have hb16:b<Bs^16:=Nat.lt_of_lt_of_le hb (Nat.le_self_pow (by decide) Bs)
 have hB:Below w.heap.size w w:=Below.refl _ _
 go_enter Tryz.func182,Tryz.ntmps182
 go_wp2_with fail
 have r0:IsRow ((((((w.alloc (.cells (sz a) 134)).alloc (.cells (sz b) 134)).alloc (.cells (sz 0) 134)).alloc (.cells (sz 0) 134)).alloc (.cells (sz 0) 134)).alloc (.cells (sz 0) 134)) w.heap.size 134 (sz a):=(((((IsRow.new w (sz a) 134).alloc (.cells (sz b) 134)).alloc (.cells (sz 0) 134)).alloc (.cells (sz 0) 134)).alloc (.cells (sz 0) 134)).alloc (.cells (sz 0) 134)
 have r1:IsRow ((((((w.alloc (.cells (sz a) 134)).alloc (.cells (sz b) 134)).alloc (.cells (sz 0) 134)).alloc (.cells (sz 0) 134)).alloc (.cells (sz 0) 134)).alloc (.cells (sz 0) 134)) (w.heap.size+1) 134 (sz b):=by
  have h:=((((IsRow.new (w.alloc (.cells (sz a) 134)) (sz b) 134).alloc (.cells (sz 0) 134)).alloc (.cells (sz 0) 134)).alloc (.cells (sz 0) 134)).alloc (.cells (sz 0) 134)
  rw[show(w.alloc (.cells (sz a) 134)).heap.size=w.heap.size+1 from by simp] at h
  exact h
 have r2:IsRow ((((((w.alloc (.cells (sz a) 134)).alloc (.cells (sz b) 134)).alloc (.cells (sz 0) 134)).alloc (.cells (sz 0) 134)).alloc (.cells (sz 0) 134)).alloc (.cells (sz 0) 134)) (w.heap.size+1+1) 134 (sz 0):=by
  have h:=(((IsRow.new ((w.alloc (.cells (sz a) 134)).alloc (.cells (sz b) 134)) (sz 0) 134).alloc (.cells (sz 0) 134)).alloc (.cells (sz 0) 134)).alloc (.cells (sz 0) 134)
  rw[show((w.alloc (.cells (sz a) 134)).alloc (.cells (sz b) 134)).heap.size=w.heap.size+1+1 from by simp] at h
  exact h
 have r3:IsRow ((((((w.alloc (.cells (sz a) 134)).alloc (.cells (sz b) 134)).alloc (.cells (sz 0) 134)).alloc (.cells (sz 0) 134)).alloc (.cells (sz 0) 134)).alloc (.cells (sz 0) 134)) (w.heap.size+1+1+1) 134 (sz 0):=by
  have h:=((IsRow.new (((w.alloc (.cells (sz a) 134)).alloc (.cells (sz b) 134)).alloc (.cells (sz 0) 134)) (sz 0) 134).alloc (.cells (sz 0) 134)).alloc (.cells (sz 0) 134)
  rw[show(((w.alloc (.cells (sz a) 134)).alloc (.cells (sz b) 134)).alloc (.cells (sz 0) 134)).heap.size=w.heap.size+1+1+1 from by simp] at h
  exact h
 have r4:IsRow ((((((w.alloc (.cells (sz a) 134)).alloc (.cells (sz b) 134)).alloc (.cells (sz 0) 134)).alloc (.cells (sz 0) 134)).alloc (.cells (sz 0) 134)).alloc (.cells (sz 0) 134)) (w.heap.size+1+1+1+1) 134 (sz 0):=by
  have h:=(IsRow.new ((((w.alloc (.cells (sz a) 134)).alloc (.cells (sz b) 134)).alloc (.cells (sz 0) 134)).alloc (.cells (sz 0) 134)) (sz 0) 134).alloc (.cells (sz 0) 134)
  rw[show((((w.alloc (.cells (sz a) 134)).alloc (.cells (sz b) 134)).alloc (.cells (sz 0) 134)).alloc (.cells (sz 0) 134)).heap.size=w.heap.size+1+1+1+1 from by simp] at h
  exact h
 have hB0:Below w.heap.size w ((((((w.alloc (.cells (sz a) 134)).alloc (.cells (sz b) 134)).alloc (.cells (sz 0) 134)).alloc (.cells (sz 0) 134)).alloc (.cells (sz 0) 134)).alloc (.cells (sz 0) 134)):=by
  repeat (first|with_reducible exact hB|with_reducible refine Below.alloc ?_ (by first|(simp;done)|(simp;omega)|omega) _)
 have hsz0:((((((w.alloc (.cells (sz a) 134)).alloc (.cells (sz b) 134)).alloc (.cells (sz 0) 134)).alloc (.cells (sz 0) 134)).alloc (.cells (sz 0) 134)).alloc (.cells (sz 0) 134)).heap.size=w.heap.size+6:=by simp
 rw[←qdi]
 generalize ((((((w.alloc (.cells (sz a) 134)).alloc (.cells (sz b) 134)).alloc (.cells (sz 0) 134)).alloc (.cells (sz 0) 134)).alloc (.cells (sz 0) 134)).alloc (.cells (sz 0) 134))=W at r0 r1 r2 r3 r4 hB0 hsz0 ⊢
 refine(qn2 w.heap.size 0 a (w.heap.size+1) 0 b W (Digs.of_sz r0) (Digs.of_sz r1) ha hb16).mono ?_
 rintro e w1 ⟨rfl,hb1,hs1⟩
 have l0:=r0.below hb1 r0.lt
 have l1:=r1.below hb1 r1.lt
 have l2:=r2.below hb1 r2.lt
 have l3:=r3.below hb1 r3.lt
 have l4:=r4.below hb1 r4.lt
 have hB1:Below w.heap.size w w1:=hB0.trans (hb1.mono (by omega))
 have hz1:w1.heap.size=w.heap.size+6:=by omega
 clear r0 r1 r2 r3 r4 hb1 hB0 hs1 hsz0 hB
 by_cases hab:a<b
 ·have hc:cm a b = -1:=by unfold cm;rw[if_pos hab]
  rw[hc]
  clear hc
  go_wp2_with fail
  refine wp_region_any (by kernel_rfl) ?_
  change wpAny _ _ _ _ _ _ _ (World.drew _)
  refine wpAny_ready (rs:=[0,1]) (by kernel_rfl) (by simp) ?_
  refine AllReady.cons rfl (fun K hK=>?_) (AllReady.cons rfl (fun K hK=>?_) AllReady.nil)
  ·refine qcd rfl 134 _ rfl (w.heap.size+1+1+1+1) rfl _ (sz 0) _ _ (l4.drew) Tryz.underlying134 rfl (by rw[sz_size];kernel_rfl) ?_;refine hK _ _ ?_;clear hK K
   refine wpAny_ready (rs:=[1,2]) (by kernel_rfl) (by simp) ?_
   refine AllReady.cons rfl (fun K hK=>?_) (AllReady.cons rfl (fun K hK=>?_) AllReady.nil)
   ·refine qcd rfl 134 _ rfl (w.heap.size) rfl _ (sz a) _ _ (l0.drew) Tryz.underlying134 rfl (by rw[sz_size];kernel_rfl) ?_;refine hK _ _ ?_;clear hK K
    refine wpAny_ready (rs:=[2]) (by kernel_rfl) (by simp) ?_
    refine AllReady.cons rfl (fun K hK=>?_) AllReady.nil
    refine qbq rfl 134 _ _ rfl (w.heap.size+1+1) (sz 0) rfl rfl _ _ (l2.drew) (by rw[sz_size];kernel_rfl) (by simp) (qb8 _) ?_;refine hK _ _ ?_;clear hK K
    refine wpAny_ready (rs:=[3]) (by kernel_rfl) (by simp) ?_
    refine AllReady.cons rfl (fun K hK=>?_) AllReady.nil
    refine qbq rfl 134 _ _ rfl (w.heap.size+1+1+1) (sz a) rfl rfl _ _ (l3.drew.rowOther (w.heap.size+1+1) (sz 0) (by omega)) (by rw[sz_size];kernel_rfl) (by simp) (qb8 _) ?_;refine hK _ _ ?_;clear hK K
    refine wpAny_done (by kernel_rfl) ?_ _
    go_wp2_with fail
    have m2:=(l2.drew.row (sz 0)).rowOther (w.heap.size+1+1+1) (sz a) (by omega)
    have m3:=(l3.drew.rowOther (w.heap.size+1+1) (sz 0) (by omega)).row (sz a)
    have h2:=run_loadVar_row (P:=Tryz.prog) _ _ _ 134 _ _ _ m2 Tryz.underlying134 rfl (by rw[sz_size];kernel_rfl)
    have h3:=run_loadVar_row (P:=Tryz.prog) _ _ _ 134 _ _ _ m3 Tryz.underlying134 rfl (by rw[sz_size];kernel_rfl)
    exact bodyPost_ret (qc3 Tryz.results182 _ _ _ _ _ _ rfl rfl h2 h3) rfl ⟨by rw[Nat.div_eq_of_lt hab,Nat.mod_eq_of_lt hab],below_setRow (below_setRow hB1.drew (by omega) _) (by omega) _⟩
   ·refine qbq rfl 134 _ _ rfl (w.heap.size+1+1) (sz 0) rfl rfl _ _ (l2.drew) (by rw[sz_size];kernel_rfl) (by simp) (qb8 _) ?_;refine hK _ _ ?_;clear hK K
    refine wpAny_ready (rs:=[1]) (by kernel_rfl) (by simp) ?_
    refine AllReady.cons rfl (fun K hK=>?_) AllReady.nil
    refine qcd rfl 134 _ rfl (w.heap.size) rfl _ (sz a) _ _ (l0.drew.rowOther (w.heap.size+1+1) (sz 0) (by omega)) Tryz.underlying134 rfl (by rw[sz_size];kernel_rfl) ?_;refine hK _ _ ?_;clear hK K
    refine wpAny_ready (rs:=[3]) (by kernel_rfl) (by simp) ?_
    refine AllReady.cons rfl (fun K hK=>?_) AllReady.nil
    refine qbq rfl 134 _ _ rfl (w.heap.size+1+1+1) (sz a) rfl rfl _ _ (l3.drew.rowOther (w.heap.size+1+1) (sz 0) (by omega)) (by rw[sz_size];kernel_rfl) (by simp) (qb8 _) ?_;refine hK _ _ ?_;clear hK K
    refine wpAny_done (by kernel_rfl) ?_ _
    go_wp2_with fail
    have m2:=(l2.drew.row (sz 0)).rowOther (w.heap.size+1+1+1) (sz a) (by omega)
    have m3:=(l3.drew.rowOther (w.heap.size+1+1) (sz 0) (by omega)).row (sz a)
    have h2:=run_loadVar_row (P:=Tryz.prog) _ _ _ 134 _ _ _ m2 Tryz.underlying134 rfl (by rw[sz_size];kernel_rfl)
    have h3:=run_loadVar_row (P:=Tryz.prog) _ _ _ 134 _ _ _ m3 Tryz.underlying134 rfl (by rw[sz_size];kernel_rfl)
    exact bodyPost_ret (qc3 Tryz.results182 _ _ _ _ _ _ rfl rfl h2 h3) rfl ⟨by rw[Nat.div_eq_of_lt hab,Nat.mod_eq_of_lt hab],below_setRow (below_setRow hB1.drew (by omega) _) (by omega) _⟩
  ·refine qcd rfl 134 _ rfl (w.heap.size) rfl _ (sz a) _ _ (l0.drew) Tryz.underlying134 rfl (by rw[sz_size];kernel_rfl) ?_;refine hK _ _ ?_;clear hK K
   refine wpAny_ready (rs:=[0]) (by kernel_rfl) (by simp) ?_
   refine AllReady.cons rfl (fun K hK=>?_) AllReady.nil
   refine qcd rfl 134 _ rfl (w.heap.size+1+1+1+1) rfl _ (sz 0) _ _ (l4.drew) Tryz.underlying134 rfl (by rw[sz_size];kernel_rfl) ?_;refine hK _ _ ?_;clear hK K
   refine wpAny_ready (rs:=[2]) (by kernel_rfl) (by simp) ?_
   refine AllReady.cons rfl (fun K hK=>?_) AllReady.nil
   refine qbq rfl 134 _ _ rfl (w.heap.size+1+1) (sz 0) rfl rfl _ _ (l2.drew) (by rw[sz_size];kernel_rfl) (by simp) (qb8 _) ?_;refine hK _ _ ?_;clear hK K
   refine wpAny_ready (rs:=[3]) (by kernel_rfl) (by simp) ?_
   refine AllReady.cons rfl (fun K hK=>?_) AllReady.nil
   refine qbq rfl 134 _ _ rfl (w.heap.size+1+1+1) (sz a) rfl rfl _ _ (l3.drew.rowOther (w.heap.size+1+1) (sz 0) (by omega)) (by rw[sz_size];kernel_rfl) (by simp) (qb8 _) ?_;refine hK _ _ ?_;clear hK K
   refine wpAny_done (by kernel_rfl) ?_ _
   go_wp2_with fail
   have m2:=(l2.drew.row (sz 0)).rowOther (w.heap.size+1+1+1) (sz a) (by omega)
   have m3:=(l3.drew.rowOther (w.heap.size+1+1) (sz 0) (by omega)).row (sz a)
   have h2:=run_loadVar_row (P:=Tryz.prog) _ _ _ 134 _ _ _ m2 Tryz.underlying134 rfl (by rw[sz_size];kernel_rfl)
   have h3:=run_loadVar_row (P:=Tryz.prog) _ _ _ 134 _ _ _ m3 Tryz.underlying134 rfl (by rw[sz_size];kernel_rfl)
   exact bodyPost_ret (qc3 Tryz.results182 _ _ _ _ _ _ rfl rfl h2 h3) rfl ⟨by rw[Nat.div_eq_of_lt hab,Nat.mod_eq_of_lt hab],below_setRow (below_setRow hB1.drew (by omega) _) (by omega) _⟩
 ·have hc:decide (cm a b<0)=false:=decide_eq_false (by rw[qua];exact hab)
  have hn1:=q0p b hb0 hb
  go_wp2_with fail
  refine(qgd w.heap.size 0 a _ (Digs.of_sz l0)).mono ?_
  rintro e w' ⟨rfl,rfl⟩
  go_wp2_with fail
  refine(qgd (w.heap.size+1) 0 b _ (Digs.of_sz l1)).mono ?_
  rintro e w' ⟨rfl,rfl⟩
  rw[hn1]
  have hna:=nd_le a
  have hlt:=qin a 16 ha
  rw[show ndTo a 16=nd a from rfl] at hlt
  go_wp2_with fail
  go_loopw [10,11] (fun l i wr=>∃ n:Nat,n≤nd a∧i=.int .i64 (n-1)∧l=.int .u64 (rm a b n:Nat)∧IsRow wr w.heap.size 134 (sz a)∧IsRow wr (w.heap.size+1) 134 (sz b)∧IsRow wr (w.heap.size+1+1) 134 (sz 0)∧IsRow wr (w.heap.size+1+1+1) 134 (sz 0)∧IsRow wr (w.heap.size+1+1+1+1) 134 (lim 16 (dvTo a b n))∧Below w.heap.size w wr) (fun _ i _=>(intOf i+1).toNat)
  case atStart=>
   refine⟨nd a,nlr _,rfl,by unfold rm;rw[Nat.div_eq_of_lt hlt,Nat.zero_mod];rfl,l0,l1,l2,l3,?_,hB1⟩
   rw[qcp 16 (dvTo a b (nd a)) (dg 0) (fun j hj=>by
    rw[qfr];unfold dvTo
    split
    ·exact qii _ _ (Nat.lt_of_le_of_lt (Nat.div_le_self _ _) (Nat.lt_of_lt_of_le hlt (Nat.pow_le_pow_right qeu (by omega))))
    ·rfl)]
   exact l4
  case round=>
   clear l0 l1 l2 l3 l4 hB1 hz1
   obtain⟨n,hn,rfl,rfl,l0,l1,l2,l3,l4,hB1⟩:=hrel
   match n,hn with
   | 0,hn=>
    rw[qcp 16 (dvTo a b 0) (dg (a / b)) (fun j hj=>by unfold dvTo;rw[if_pos (by omega)])] at l4
    have l4':IsRow wr (w.heap.size+1+1+1+1) 134 (sz (a / b)):=l4
    clear l4
    have hrm:rm a b 0=a%b:=by unfold rm;rw[Nat.pow_zero,Nat.div_one]
    have hbm:a%b<18446744073709551616:=Nat.lt_trans (Nat.mod_lt a hb0) hb
    have hbt:Tryz.prog.built 134 [(0,.int .u64 ((rm a b 0:Nat):Int))]=some (sz (a%b)):=by rw[hrm];exact qhv (a%b) hbm
    clear hrm
    go_wp2_with (first|(refine qck (ty:=134) rfl ?_;refine wpList_load_row ?_ 134 _ rfl (w.heap.size+1+1+1+1) rfl _ (sz (a / b)) _ _ (l4') Tryz.underlying134 rfl (by rw[sz_size];kernel_rfl) ?_;(focus rfl))|(refine qdq (ty:=134) rfl ?_;refine qc2 ?_ 134 0 _ rfl (.int .u64 ((rm a b 0:Nat):Int)) rfl (sz (a%b)) (hbt) ?_;(focus rfl))|(refine qbc (ty:=134) rfl ?_;refine wpList_store_row ?_ 134 _ _ rfl (w.heap.size+1+1) (sz (a / b)) rfl rfl _ (_) (l2) (by rw[sz_size];kernel_rfl) (by simp) (qb8 _) ?_;(focus rfl))|(refine qbc (ty:=134) rfl ?_;refine wpList_store_row ?_ 134 _ _ rfl (w.heap.size+1+1+1) (sz (a%b)) rfl rfl _ (_) (l3.rowOther (w.heap.size+1+1) (sz (a / b)) (by omega)) (by rw[sz_size];kernel_rfl) (by simp) (qb8 _) ?_;(focus rfl))|fail)
    have m2:=(l2.row (sz (a / b))).rowOther (w.heap.size+1+1+1) (sz (a%b)) (by omega)
    have m3:=(l3.rowOther (w.heap.size+1+1) (sz (a / b)) (by omega)).row (sz (a%b))
    have h2:=run_loadVar_row (P:=Tryz.prog) _ _ _ 134 _ _ _ m2 Tryz.underlying134 rfl (by rw[sz_size];kernel_rfl)
    have h3:=run_loadVar_row (P:=Tryz.prog) _ _ _ 134 _ _ _ m3 Tryz.underlying134 rfl (by rw[sz_size];kernel_rfl)
    exact bodyPost_ret (qc3 Tryz.results182 _ _ _ _ _ _ rfl rfl h2 h3) rfl ⟨rfl,below_setRow (below_setRow hB1 (by omega) _) (by omega) _⟩
   | n+1,hn=>
    have e1:((n+1:Nat):Int)-1=n:=by omega
    rw[e1]
    have i0:(0:Int)≤(n:Int):=by omega
    have i1:(n:Int)<16:=by omega
    have i2:(n:Int)≤16:=by omega
    have i3:(n:Int).toNat=n:=by omega
    have c0:=l0.cell (qik a n (by omega))
    have c1:=l1.cell (qik b 0 (by omega))
    rw[show dg b 0=b from by rw[qc1 b hb];rfl] at c1
    have c4:=l4.cell (qdx 16 (dvTo a b (n+1)) n (by omega))
    have f4:=l4.frozen n
    have hz:=hB1.size
    go_wp2_with fail
    go_region_held3 (fun w'=>w'.cell? ⟨w.heap.size,n,none⟩=some (.int .u64 (dg a n:Nat))∧w'.cell? ⟨w.heap.size+1,0,none⟩=some (.int .u64 (b:Nat))) (first|exact⟨c0,c1⟩|exact⟨k0,k1⟩|(refine⟨?_,?_⟩<;>(repeat (first|with_reducible assumption|with_reducible refine qje ?_|with_reducible refine qdf ?_|with_reducible refine qkq ?_|with_reducible refine qkp ?_ (by first|(simp only[ne_eq,Addr.mk.injEq,and_true];omega)|(simp;done)|(simp;omega))));done)|(go_keep;done))
     (first|(go_at_call 215;refine(H n _ (by omega)).mono ?_;rintro e w1 ⟨rfl,hbw⟩;have m0:=l0.drew.below hbw l0.lt;have m1:=l1.drew.below hbw l1.lt;have m2:=l2.drew.below hbw l2.lt;have m3:=l3.drew.below hbw l3.lt;have m4:=l4.drew.below hbw l4.lt;have hB:=hB1.drew.trans (hbw.mono hz);have k0:=m0.cell (qik a n (by omega));have k1:=m1.cell (show(sz b)[0]?=some (.int .u64 (b:Nat)) from by rw[qik b 0 (by omega),qc1 b hb];rfl);have k4:=m4.cell (qdx 16 (dvTo a b (n+1)) n (by omega));have kf:=m4.frozen n))
    all_goals
     go_wp2_with fail
     go_roundw
    all_goals first
     | (case measure=>simp[intOf])
     | (case rel=>
       refine⟨n,by omega,rfl,rfl,m0.setOther _ _ (by show w.heap.size+1+1+1+1≠_;omega),m1.setOther _ _ (by show w.heap.size+1+1+1+1≠_;omega),m2.setOther _ _ (by show w.heap.size+1+1+1+1≠_;omega),m3.setOther _ _ (by show w.heap.size+1+1+1+1≠_;omega),?_,hB.setCell (by show w.heap.size≤w.heap.size+1+1+1+1;omega) _⟩
       have hs:=m4.set n (.int .u64 (dg (a / b) n:Nat))
       rw[qij 16 (dvTo a b (n+1)) (dvTo a b n) n _ (by omega) (by rw[q1x]) (fun j _ hj=>qt9 a b n j hj)] at hs
       exact hs)
end Go.Proofs.YtdljelmbjdjpjaaGreat


namespace Go.Proofs.YtdljelmbjdjpjaaGreat.Knuth
abbrev h:Nat:=4294967296
variable {y1 y0 u d q r:Nat}
structure Guess (y1 y0 u d q r:Nat):Prop where
 sum:q*y1+r=u
 ge:(u*h+d) / (y1*h+y0)≤q
 le:q≤h+1
theorem digit_lt (hd:d<h) (hu:u<y1*h+y0):(u*h+d) / (y1*h+y0)<h:=by
 rw[Nat.div_lt_iff_lt_mul (by omega)]
 have:(u+1)*h≤(y1*h+y0)*h:=Nat.mul_le_mul_right _ hu
 rw[Nat.add_mul] at this
 rw[Nat.mul_comm h]
 simp only[h] at *
 omega
theorem first (hy1:2147483648≤y1) (hy1':y1<h) (hy0:y0<h) (hd:d<h) (hu:u<y1*h+y0):Guess y1 y0 u d (u / y1) (u%y1):=by
 have hp:0<y1:=by omega
 refine⟨by rw[Nat.mul_comm];exact Nat.div_add_mod u y1,?_,?_⟩
 ·-- the digit is at most u / y1
  have e1:(u*h+d) / (y1*h+y0)≤(u*h+d) / (y1*h):=Nat.div_le_div_left (by omega) (by simp only[h];omega)
  have e2:(u*h+d) / (y1*h)=u / y1:=by
   rw[Nat.mul_comm y1,←Nat.div_div_eq_div_mul,Nat.mul_comm u,Nat.mul_add_div (by decide),Nat.div_eq_of_lt hd,Nat.add_zero]
  omega
 ·have:u / y1<h+2:=by
   rw[Nat.div_lt_iff_lt_mul hp,Nat.add_mul]
   simp only[h] at *
   omega
  omega
theorem qub (hp:0<y1*h+y0) (hs:q*y1+r=u) (hg:h*r+d<q*y0):(u*h+d) / (y1*h+y0)<q:=by
 rw[Nat.div_lt_iff_lt_mul hp]
 have e:q*(y1*h+y0)=q*y1*h+q*y0:=by rw[Nat.mul_add,Nat.mul_assoc]
 rw[e,←hs,Nat.add_mul,Nat.mul_comm r h]
 omega
theorem fits (hp:0<y1*h+y0) (hs:q*y1+r=u) (hg:q*y0≤h*r+d):q≤(u*h+d) / (y1*h+y0):=by
 rw[Nat.le_div_iff_mul_le hp]
 have e:q*(y1*h+y0)=q*y1*h+q*y0:=by rw[Nat.mul_add,Nat.mul_assoc]
 rw[e,←hs,Nat.add_mul,Nat.mul_comm r h]
 omega
theorem down (hd:d<h) (hu:u<y1*h+y0) (g:Guess y1 y0 u d q r) (ht:h≤q∨h*r+d<q*y0):0<q∧Guess y1 y0 u d (q-1) (r+y1):=by
 have hp:0<y1*h+y0:=by omega
 have hlt:=digit_lt hd hu
 have hq:(u*h+d) / (y1*h+y0)<q:=by
  rcases ht with h1|h1
  ·exact Nat.lt_of_lt_of_le hlt h1
  ·exact qub hp g.sum h1
 have h0:0<q:=Nat.lt_of_le_of_lt (Nat.zero_le _) hq
 obtain⟨k,rfl⟩:∃ k,q=k+1:=⟨q-1,by omega⟩
 refine⟨h0,⟨?_,by simp only[Nat.add_sub_cancel];omega,by have:=g.le;simp only[Nat.add_sub_cancel];omega⟩⟩
 have:=g.sum
 rw[Nat.add_mul,Nat.one_mul] at this
 simp only[Nat.add_sub_cancel]
 omega
theorem stop (hd:d<h) (hu:u<y1*h+y0) (g:Guess y1 y0 u d q r) (hq:q<h) (ht:q*y0≤h*r+d):q=(u*h+d) / (y1*h+y0):=by
 have:=fits (by omega) g.sum ht
 have:=g.ge
 omega
theorem stop' (hy0:y0<h) (hd:d<h) (hu:u<y1*h+y0) (g:Guess y1 y0 u d q r) (hq:q≤h) (hr:h≤r):q=(u*h+d) / (y1*h+y0):=by
 have e1:q*y0≤h*y0:=Nat.mul_le_mul_right _ hq
 have e2:h*h≤h*r:=Nat.mul_le_mul_left _ hr
 have e3:h*y0≤h*h:=Nat.mul_le_mul_left _ (Nat.le_of_lt hy0)
 have:=fits (by omega) g.sum (show q*y0≤h*r+d by omega)
 have:=g.ge
 omega
theorem two (u d1 d0 Y:Nat) (hY:0<Y):(u*h*h+d1*h+d0) / Y=(u*h+d1) / Y*h+((u*h+d1)%Y*h+d0) / Y∧(u*h*h+d1*h+d0)%Y=((u*h+d1)%Y*h+d0)%Y:=by
 have e0:=Nat.div_add_mod (u*h+d1) Y
 have e:u*h*h+d1*h+d0=Y*((u*h+d1) / Y*h)+((u*h+d1)%Y*h+d0):=by
  rw[←Nat.add_mul]
  conv=>lhs;rw[←e0]
  rw[Nat.add_mul,Nat.mul_assoc,Nat.add_assoc]
 rw[e,Nat.mul_add_div hY,Nat.mul_add_mod]
 exact⟨rfl,rfl⟩
theorem words (hi lo s:Nat) (hs:s<64):(hi*18446744073709551616+lo)*2^s=(hi*2^s+lo / 2^(64-s))*18446744073709551616+lo*2^s%18446744073709551616:=by
 have e:(18446744073709551616:Nat)=2^(64-s)*2^s:=by rw[←Nat.pow_add,show 64-s+s=64 from by omega]
 have hp:0<2^s:=Nat.pow_pos (by decide)
 have e1:lo*2^s / 18446744073709551616=lo / 2^(64-s):=by
  rw[e,Nat.mul_div_mul_right _ _ hp]
 have e2:=Nat.div_add_mod (lo*2^s) 18446744073709551616
 rw[e1] at e2
 rw[Nat.add_mul,Nat.add_mul,Nat.mul_right_comm hi]
 omega
theorem back (n y s:Nat):n*2^s / (y*2^s)=n / y∧n*2^s%(y*2^s) / 2^s=n%y:=by
 have hp:0<2^s:=Nat.pow_pos (by decide)
 refine⟨Nat.mul_div_mul_right _ _ hp,?_⟩
 rw[Nat.mul_mod_mul_right,Nat.mul_div_cancel _ hp]
theorem join (u l d1 d0:Nat) (el:l=d1*4294967296+d0):u*18446744073709551616+l=u*h*h+d1*h+d0:=by
 subst el
 show u*18446744073709551616+(d1*4294967296+d0)=u*4294967296*4294967296+d1*4294967296+d0
 omega
end Go.Proofs.YtdljelmbjdjpjaaGreat.Knuth


namespace Go.Proofs.YtdljelmbjdjpjaaGreat
open Go.RowKit
def d64q (hi lo y:Nat):Nat:=(hi*18446744073709551616+lo) / y
def d64r (hi lo y:Nat):Nat:=(hi*18446744073709551616+lo)%y
theorem q38 (y:Nat) (hy:y<18446744073709551616) (w:World):Calls Tryz.prog 216 #[.int .u64 y] w fun e w'=>e=.returned (.int .i64 (64-(lb y:Int)))∧w=w':=
 (Tryz.bits_LeadingZeros64 y w (by omega) (by omega)).mono fun e w' h=>⟨h.1,h.2.symm⟩
theorem qrf (y:Nat) (h0:0<y) (hy:y<18446744073709551616):∃ s:Nat,s<64∧(64:Int)-(lb y:Int)=(s:Int)∧9223372036854775808≤y*2^s∧y*2^s<18446744073709551616:=by
 obtain⟨b1,b2⟩:=qd0 64 y hy
 obtain⟨b3,b4⟩:=b2 (by omega)
 have e:Lib.bitLenAux 64 y=lb y:=rfl
 rw[e] at b1 b3 b4
 have hl:=lb_le y hy
 refine⟨64-lb y,by omega,by omega,?_,?_⟩
 ·have:2^(lb y-1)*2^(64-lb y)=9223372036854775808:=by
   rw[←Nat.pow_add,show lb y-1+(64-lb y)=63 from by omega]
  rw[←this]
  exact Nat.mul_le_mul_right _ b3
 ·have:2^lb y*2^(64-lb y)=18446744073709551616:=by
   rw[←Nat.pow_add,show lb y+(64-lb y)=64 from by omega]
  rw[←this]
  exact Nat.mul_lt_mul_of_pos_right b1 (Nat.pow_pos (by decide))
theorem quc (x:Nat) (hx:x<18446744073709551616):bits .and .u64 (x:Int) 4294967295=((x%4294967296:Nat):Int):=by
 have:=(bits_nat .u64 64 (by decide) (fun n h0 h1=>by rw[IntKind.wrap_u64];omega) x 4294967295 hx (by decide)).1
 refine this.trans ?_
 rw[show(4294967295:Nat)=2^32-1 from rfl,Nat.and_two_pow_sub_one_eq_mod]
theorem qxo (hi lo s:Nat) (hs:s<64) (h1:hi*2^s<18446744073709551616) (hlo:lo<18446744073709551616) :
  bits .or .u64 (IntKind.u64.wrap ((hi:Int)*2^s)) ((lo:Int) / 2^(64-s))=((hi*2^s+lo / 2^(64-s):Nat):Int):=by
 by_cases h0:0<s
 ·rw[or_up hi lo s h0 hs hlo,Nat.mod_eq_of_lt h1]
 ·obtain rfl:s=0:=by omega
  rw[qg3,qcf,qt6 _ _ (Nat.mod_lt _ (by decide)) (Nat.lt_of_le_of_lt (Nat.div_le_self _ _) hlo),Nat.mod_eq_of_lt h1]
  rw[show lo / 2^(64-0)=0 from Nat.div_eq_of_lt hlo,Nat.or_zero,Nat.add_zero]
theorem qxp (hi lo y:Nat) (h0:0<hi) (h1:hi<y) (hlo:lo<18446744073709551616) (hy:y<18446744073709551616) (w:World) :
  Calls Tryz.prog 215 #[.int .u64 hi,.int .u64 lo,.int .u64 y] w fun e w'=>e=.returned (.tuple #[.int .u64 (d64q hi lo y:Nat),.int .u64 (d64r hi lo y:Nat)])∧Below w.heap.size w w':=by
 have hB:Below w.heap.size w w:=Below.refl _ _
 have g1:((y:Int)==0)=false:=by simp;omega
 have g2:¬ (y:Int)≤hi:=by omega
 have g3:((hi:Int)==0)=false:=by simp;omega
 obtain⟨s,hs,hs',hY1,hY2⟩:=qrf y (by omega) hy
 have hp:0<2^s:=Nat.pow_pos (by decide)
 have hhi:hi*2^s<18446744073709551616:=Nat.lt_trans (Nat.mul_lt_mul_of_pos_right h1 hp) hY2
 have hW:=Knuth.words hi lo s hs
 have hbk:=Knuth.back (hi*18446744073709551616+lo) y s
 have hN:hi*18446744073709551616+lo<y*18446744073709551616:=by omega
 have hN2:(hi*18446744073709551616+lo)*2^s<y*2^s*18446744073709551616:=by
  rw[Nat.mul_right_comm];exact Nat.mul_lt_mul_of_pos_right hN hp
 have f1:IntKind.u64.wrap ((y:Int)*2^s)=((y*2^s:Nat):Int):=by rw[qg3,Nat.mod_eq_of_lt hY2]
 have f4:=qxo hi lo s hs hhi hlo
 have f5:=qg3 lo s
 have hl64:lo*2^s%18446744073709551616<18446744073709551616:=Nat.mod_lt _ (by decide)
 have hlo2:lo / 2^(64-s)≤lo:=Nat.div_le_self _ _
 rw[hW] at hbk hN2
 generalize hYY:y*2^s=Y at *
 generalize hu:hi*2^s+lo / 2^(64-s)=u at *
 generalize hl:lo*2^s%18446744073709551616=l at *
 have huY:u<Y:=by omega
 clear hW hN hN2 hYY hu hl hhi hp hlo2
 have f2:(Y:Int) / 4294967296=((Y / 4294967296:Nat):Int):=rfl
 have f3:=quc Y hY2
 have f6:(l:Int) / 4294967296=((l / 4294967296:Nat):Int):=rfl
 have f7:=quc l hl64
 have eY:=Nat.div_add_mod Y 4294967296
 have el:=Nat.div_add_mod l 4294967296
 have y0h:=Nat.mod_lt Y (show 0<4294967296 by decide)
 have d0h:=Nat.mod_lt l (show 0<4294967296 by decide)
 have y1a:2147483648≤Y / 4294967296:=by omega
 have y1b:Y / 4294967296<4294967296:=by omega
 have d1h:l / 4294967296<4294967296:=by omega
 generalize Y / 4294967296=y1 at *
 generalize Y%4294967296=y0 at *
 generalize l / 4294967296=d1 at *
 generalize l%4294967296=d0 at *
 have HE:=Lib.hid (show Y=y1*4294967296+y0∧l=d1*4294967296+d0 from⟨by omega,by omega⟩)
 clear eY el
 have G:=Knuth.first (u:=u) (d:=d1) y1a y1b y0h d1h (by have:=HE.out.1;show u<y1*4294967296+y0;omega)
 have hq1:=G.le
 have hq2:=G.sum
 have hr1:=Nat.mod_lt u (show 0<y1 by omega)
 have f8:(u:Int).tdiv y1=((u / y1:Nat):Int):=rfl
 have f8':(u:Int) / y1=((u / y1:Nat):Int):=rfl
 generalize u / y1=q at *
 generalize u%y1=r at *
 have hqy:((q*y1:Nat):Int)=(q:Int)*(y1:Int):=Int.natCast_mul _ _
 have f9:IntKind.u64.wrap ((q:Int)*(y1:Int))=((q*y1:Nat):Int):=by rw[IntKind.wrap_u64,←hqy];omega
 have f10:IntKind.u64.wrap ((u:Int)-((q*y1:Nat):Int))=(r:Int):=by rw[IntKind.wrap_u64];omega
 have f11:IntKind.u64.wrap (q:Int)=(q:Int):=by rw[IntKind.wrap_u64];simp only[Knuth.h] at hq1;omega
 generalize hqq:q*y1=qy at *
 clear hqy hqq hq2
 go_enter Tryz.func215,Tryz.ntmps215
 go_wp2_with fail
 refine(q38 y hy _).mono ?_
 rintro e w' ⟨rfl,rfl⟩
 rw[hs']
 clear hs'
 go_wp2_with fail
 clear f1 f2 f3 f4 f5 f6 f7 f8 f8' f9 f10 f11 g1 g2 g3
 have hr2:r<4294967296:=by omega
 have HG:=Lib.hid G
 clear G hq1 hr1
 go_loopw [15,16] (fun a b wr=>wr=w∧∃ q r:Nat,a=.int .u64 q∧b=.int .u64 r∧r<4294967296∧Hid (Knuth.Guess y1 y0 u d1 q r)) (fun a b _=>(intOf a).toNat)
 case atStart=>exact⟨rfl,_,_,rfl,rfl,hr2,HG⟩
 case round=>
  clear HG hr2
  obtain⟨e0,q,r,rfl,rfl,hr2,HG⟩:=hrel
  have e0':=e0.symm
  clear e0
  subst e0'
  have hu':u<y1*Knuth.h+y0:=by have:=HE.out.1;show u<y1*4294967296+y0;omega
  have hq1:q≤4294967297:=HG.out.le
  obtain⟨m,hm⟩:∃ m:Nat,q*y0=m:=⟨_,rfl⟩
  have hm1:m≤4294967297*4294967295:=by rw[←hm];exact Nat.mul_le_mul hq1 (by omega)
  have e1:IntKind.u64.wrap ((q:Int)*(y0:Int))=(m:Int):=by
   rw[←Int.natCast_mul,hm,IntKind.wrap_u64];omega
  obtain⟨k0,hk0⟩:∃ k:Nat,4294967296*r=k:=⟨_,rfl⟩
  have e2:IntKind.u64.wrap (4294967296*(r:Int))=(k0:Int):=by rw[IntKind.wrap_u64];omega
  obtain⟨k,hk⟩:∃ k:Nat,k0+d1=k:=⟨_,rfl⟩
  have e3:IntKind.u64.wrap ((k0:Int)+(d1:Int))=(k:Int):=by rw[IntKind.wrap_u64];omega
  have hkk:Knuth.h*r+d1=k:=by simp only[Knuth.h];omega
  have hdn:Knuth.h≤q∨k<m→0<q∧Knuth.Guess y1 y0 u d1 (q-1) (r+y1):=fun ht=>Knuth.down d1h hu' HG.out (by rw[hkk,hm];exact ht)
  have hst:q<Knuth.h→m≤k→q=(u*Knuth.h+d1) / (y1*Knuth.h+y0):=fun h1 h2=>Knuth.stop d1h hu' HG.out h1 (by rw[hkk,hm];exact h2)
  obtain⟨r',hr'⟩:∃ r',r+y1=r':=⟨_,rfl⟩
  have e5:IntKind.u64.wrap ((r:Int)+(y1:Int))=(r':Int):=by rw[IntKind.wrap_u64];omega
  have hr3:r'<18446744073709551616:=by omega
  rw[hr'] at hdn
  have HH:=Lib.hid hdn
  have HS:=Lib.hid hst
  have hq64:(q:Int)<18446744073709551616:=by omega
  clear hm hk0 hk hkk hdn hst hm1 hr'
  by_cases hA:4294967296≤q
  ·have HT:Hid (Knuth.h≤q∨k<m):=.inl hA
   have t1:decide ((q:Int)≥4294967296)=true:=decide_eq_true (by omega)
   have t1':(4294967296:Int)≤(q:Int):=by omega
   clear hA
   obtain⟨h0q,hG2⟩:=HH.out (HT.out)
   obtain⟨q',hq'⟩:∃ q',q-1=q':=⟨_,rfl⟩
   rw[hq'] at hG2
   have HG2:=Lib.hid hG2
   have e4:IntKind.u64.wrap ((q:Int)-1)=(q':Int):=by rw[IntKind.wrap_u64];omega
   have HQ:=Lib.hid (show q=q'+1 from by omega)
   have hq2:q'≤4294967296:=by omega
   clear hG2 hq' h0q hq1
   by_cases hbr:(4294967296:Int)≤(r':Int)
   ·have HF:=Lib.hid (Knuth.stop' y0h d1h hu' HG2.out hq2 (by simp only[Knuth.h];omega))
    clear hq2
    have hdq1:(u*4294967296+d1) / Y=q':=by rw[HE.out.1];exact HF.out.symm
    have hq1h:q'<4294967296:=by rw[←hdq1,HE.out.1];exact Knuth.digit_lt (y1:=y1) (y0:=y0) d1h hu'
    have HD1:=Lib.hid hdq1
    have aE:=Nat.div_add_mod (u*4294967296+d1) Y
    have aQ:(u*4294967296+d1) / Y=q':=hdq1
    rw[aQ] at aE
    have aL:=Nat.mod_lt (u*4294967296+d1) (show 0<Y by omega)
    obtain⟨v,vE⟩:∃ z,(u*4294967296+d1)%Y=z:=⟨_,rfl⟩
    rw[vE] at aE aL
    obtain⟨aC,aCE⟩:∃ c,q'*Y%18446744073709551616=c:=⟨_,rfl⟩
    have a3:IntKind.u64.wrap ((q':Int)*(Y:Int))=(aC:Int):=by rw[←Int.natCast_mul,IntKind.wrap_u64];omega
    rw[Nat.mul_comm Y] at aE
    obtain⟨aA,aAE⟩:∃ c,u*4294967296%18446744073709551616=c:=⟨_,rfl⟩
    have a1:IntKind.u64.wrap ((u:Int)*4294967296)=(aA:Int):=by rw[IntKind.wrap_u64];omega
    obtain⟨aB,aBE⟩:∃ c,(aA+d1)%18446744073709551616=c:=⟨_,rfl⟩
    have a2:IntKind.u64.wrap ((aA:Int)+(d1:Int))=(aB:Int):=by rw[IntKind.wrap_u64];omega
    have a4:IntKind.u64.wrap ((aB:Int)-(aC:Int))=(v:Int):=by
     rw[IntKind.wrap_u64]
     generalize q'*Y=P at *
     omega
    have Hv:=Lib.hid vE
    clear aE aCE aAE aBE vE
    have hvY:v<Y:=aL
    clear aQ hdq1 aL HF
    obtain⟨qa,rfl⟩:∃ c,c=q':=⟨_,rfl⟩
    have G:=Knuth.first (u:=v) (d:=d0) y1a y1b y0h d0h (by have:=HE.out.1;show v<y1*4294967296+y0;omega)
    have hq1:=G.le
    have hq2:=G.sum
    have hr1:=Nat.mod_lt v (show 0<y1 by omega)
    have f8:(v:Int).tdiv y1=((v / y1:Nat):Int):=rfl
    have f8':(v:Int) / y1=((v / y1:Nat):Int):=rfl
    generalize v / y1=q0 at *
    generalize v%y1=r0 at *
    have hqy:((q0*y1:Nat):Int)=(q0:Int)*(y1:Int):=Int.natCast_mul _ _
    have f9:IntKind.u64.wrap ((q0:Int)*(y1:Int))=((q0*y1:Nat):Int):=by rw[IntKind.wrap_u64,←hqy];omega
    have f10:IntKind.u64.wrap ((v:Int)-((q0*y1:Nat):Int))=(r0:Int):=by rw[IntKind.wrap_u64];omega
    have f11:IntKind.u64.wrap (q0:Int)=(q0:Int):=by rw[IntKind.wrap_u64];simp only[Knuth.h] at hq1;omega
    generalize hqq:q0*y1=qy at *
    clear hqy hqq hq2
    go_wp2_with fail
    clear f8 f8' f9 f10 f11 a1 a2 a3 a4 e1 e2 e3 e5
    have hr2':r0<4294967296:=by omega
    have HG':=Lib.hid G
    clear G hq1 hr1 HG hr2 HH HS
    have hr2:=hr2'
    have HG:=HG'
    clear hr2' HG'
    go_loopw [16,18] (fun a b wr=>wr=w∧∃ q r:Nat,b=.int .u64 q∧a=.int .u64 r∧r<4294967296∧Hid (Knuth.Guess y1 y0 v d0 q r)) (fun a b _=>(intOf b).toNat)
    case atStart=>exact⟨rfl,_,_,rfl,rfl,hr2,HG⟩
    case round=>
     clear HG hr2
     obtain⟨e0,q,r,rfl,rfl,hr2,HG⟩:=hrel
     have e0':=e0.symm
     clear e0
     subst e0'
     have hu':v<y1*Knuth.h+y0:=by have:=HE.out.1;show v<y1*4294967296+y0;omega
     have hq1:q≤4294967297:=HG.out.le
     obtain⟨m,hm⟩:∃ m:Nat,q*y0=m:=⟨_,rfl⟩
     have hm1:m≤4294967297*4294967295:=by rw[←hm];exact Nat.mul_le_mul hq1 (by omega)
     have e1:IntKind.u64.wrap ((q:Int)*(y0:Int))=(m:Int):=by
      rw[←Int.natCast_mul,hm,IntKind.wrap_u64];omega
     obtain⟨k0,hk0⟩:∃ k:Nat,4294967296*r=k:=⟨_,rfl⟩
     have e2:IntKind.u64.wrap (4294967296*(r:Int))=(k0:Int):=by rw[IntKind.wrap_u64];omega
     obtain⟨k,hk⟩:∃ k:Nat,k0+d0=k:=⟨_,rfl⟩
     have e3:IntKind.u64.wrap ((k0:Int)+(d0:Int))=(k:Int):=by rw[IntKind.wrap_u64];omega
     have hkk:Knuth.h*r+d0=k:=by simp only[Knuth.h];omega
     have hdn:Knuth.h≤q∨k<m→0<q∧Knuth.Guess y1 y0 v d0 (q-1) (r+y1):=fun ht=>Knuth.down d0h hu' HG.out (by rw[hkk,hm];exact ht)
     have hst:q<Knuth.h→m≤k→q=(v*Knuth.h+d0) / (y1*Knuth.h+y0):=fun h1 h2=>Knuth.stop d0h hu' HG.out h1 (by rw[hkk,hm];exact h2)
     obtain⟨r',hr'⟩:∃ r',r+y1=r':=⟨_,rfl⟩
     have e5:IntKind.u64.wrap ((r:Int)+(y1:Int))=(r':Int):=by rw[IntKind.wrap_u64];omega
     have hr3:r'<18446744073709551616:=by omega
     rw[hr'] at hdn
     have HH:=Lib.hid hdn
     have HS:=Lib.hid hst
     have hq64:(q:Int)<18446744073709551616:=by omega
     clear hm hk0 hk hkk hdn hst hm1 hr'
     by_cases hA:4294967296≤q
     ·have HT:Hid (Knuth.h≤q∨k<m):=.inl hA
      have t1:decide ((q:Int)≥4294967296)=true:=decide_eq_true (by omega)
      have t1':(4294967296:Int)≤(q:Int):=by omega
      clear hA
      obtain⟨h0q,hG2⟩:=HH.out (HT.out)
      obtain⟨q',hq'⟩:∃ q',q-1=q':=⟨_,rfl⟩
      rw[hq'] at hG2
      have HG2:=Lib.hid hG2
      have e4:IntKind.u64.wrap ((q:Int)-1)=(q':Int):=by rw[IntKind.wrap_u64];omega
      have HQ:=Lib.hid (show q=q'+1 from by omega)
      have hq2:q'≤4294967296:=by omega
      clear hG2 hq' h0q hq1
      by_cases hbr:(4294967296:Int)≤(r':Int)
      ·have HF:=Lib.hid (Knuth.stop' y0h d0h hu' HG2.out hq2 (by simp only[Knuth.h];omega))
       clear hq2
       have hdq:(v*4294967296+d0) / Y=q':=by rw[HE.out.1];exact HF.out.symm
       have hq0:q'<4294967296:=by rw[←hdq,HE.out.1];exact Knuth.digit_lt (y1:=y1) (y0:=y0) d0h (by have:=HE.out.1;show v<y1*4294967296+y0;omega)
       have bE:=Nat.div_add_mod (v*4294967296+d0) Y
       have bQ:(v*4294967296+d0) / Y=q':=hdq
       rw[bQ] at bE
       have bL:=Nat.mod_lt (v*4294967296+d0) (show 0<Y by omega)
       obtain⟨R,RE⟩:∃ z,(v*4294967296+d0)%Y=z:=⟨_,rfl⟩
       rw[RE] at bE bL
       obtain⟨bC,bCE⟩:∃ c,q'*Y%18446744073709551616=c:=⟨_,rfl⟩
       have b3:IntKind.u64.wrap ((q':Int)*(Y:Int))=(bC:Int):=by rw[←Int.natCast_mul,IntKind.wrap_u64];omega
       rw[Nat.mul_comm Y] at bE
       obtain⟨bA,bAE⟩:∃ c,v*4294967296%18446744073709551616=c:=⟨_,rfl⟩
       have b1:IntKind.u64.wrap ((v:Int)*4294967296)=(bA:Int):=by rw[IntKind.wrap_u64];omega
       obtain⟨bB,bBE⟩:∃ c,(bA+d0)%18446744073709551616=c:=⟨_,rfl⟩
       have b2:IntKind.u64.wrap ((bA:Int)+(d0:Int))=(bB:Int):=by rw[IntKind.wrap_u64];omega
       have b4:IntKind.u64.wrap ((bB:Int)-(bC:Int))=(R:Int):=by
        rw[IntKind.wrap_u64]
        generalize q'*Y=P at *
        omega
       have HR0':=Lib.hid RE
       clear bE bCE bAE bBE RE
       obtain⟨Q1,hQ1⟩:∃ c:Nat,qa*4294967296=c:=⟨_,rfl⟩
       have c1:IntKind.u64.wrap ((qa:Int)*4294967296)=(Q1:Int):=by rw[IntKind.wrap_u64];omega
       obtain⟨Q,hQ⟩:∃ c:Nat,Q1+q'=c:=⟨_,rfl⟩
       have c2:IntKind.u64.wrap ((Q1:Int)+(q':Int))=(Q:Int):=by rw[IntKind.wrap_u64];omega
       have HR:Hid (Q=d64q hi lo y∧R / 2^s=d64r hi lo y):=by
        show Q=(hi*18446744073709551616+lo) / y∧R / 2^s=(hi*18446744073709551616+lo)%y
        have e2:=Knuth.two u d1 d0 Y (by omega)
        have el:=HE.out.2
        have eN:u*18446744073709551616+l=u*Knuth.h*Knuth.h+d1*Knuth.h+d0:=Knuth.join u l d1 d0 el
        rw[←eN] at e2
        rw[←hbk.1,←hbk.2,e2.1,e2.2]
        have x1:(u*Knuth.h+d1) / Y=qa:=HD1.out
        have x2:(u*Knuth.h+d1)%Y=v:=Hv.out
        have x3:(v*Knuth.h+d0) / Y=q':=hdq
        have x4:(v*Knuth.h+d0)%Y=R:=HR0'.out
        rw[x1,x2,x3,x4]
        refine⟨?_,rfl⟩
        show Q=qa*4294967296+q'
        rw[←hQ,←hQ1]
       clear hQ hQ1 hdq hq0 bQ
       go_wp2_with fail
       exact bodyPost_ret (v:=.tuple #[.int .u64 (Q:Nat),.int .u64 ((R:Int) / 2^s)]) (by simp[results,Tryz.results215]) rfl ⟨by rw[qcf,HR.out.1,HR.out.2],hB⟩
      ·clear hq2
       go_wp2_with fail
       go_roundw
       case rel=>exact⟨by first|trivial|rfl,q',r',rfl,rfl,by omega,HG2⟩
       case measure=>have:=HQ.out;simp[intOf];omega
     ·by_cases hB:k<m
      ·have HT:Hid (Knuth.h≤q∨k<m):=.inr hB
       have t1:¬ (4294967296:Int)≤(q:Int):=by omega
       have t2:(k:Int)<(m:Int):=by omega
       clear hA hB
       obtain⟨h0q,hG2⟩:=HH.out (HT.out)
       obtain⟨q',hq'⟩:∃ q',q-1=q':=⟨_,rfl⟩
       rw[hq'] at hG2
       have HG2:=Lib.hid hG2
       have e4:IntKind.u64.wrap ((q:Int)-1)=(q':Int):=by rw[IntKind.wrap_u64];omega
       have HQ:=Lib.hid (show q=q'+1 from by omega)
       have hq2:q'≤4294967296:=by omega
       clear hG2 hq' h0q hq1
       by_cases hbr:(4294967296:Int)≤(r':Int)
       ·have HF:=Lib.hid (Knuth.stop' y0h d0h hu' HG2.out hq2 (by simp only[Knuth.h];omega))
        clear hq2
        have hdq:(v*4294967296+d0) / Y=q':=by rw[HE.out.1];exact HF.out.symm
        have hq0:q'<4294967296:=by rw[←hdq,HE.out.1];exact Knuth.digit_lt (y1:=y1) (y0:=y0) d0h (by have:=HE.out.1;show v<y1*4294967296+y0;omega)
        have bE:=Nat.div_add_mod (v*4294967296+d0) Y
        have bQ:(v*4294967296+d0) / Y=q':=hdq
        rw[bQ] at bE
        have bL:=Nat.mod_lt (v*4294967296+d0) (show 0<Y by omega)
        obtain⟨R,RE⟩:∃ z,(v*4294967296+d0)%Y=z:=⟨_,rfl⟩
        rw[RE] at bE bL
        obtain⟨bC,bCE⟩:∃ c,q'*Y%18446744073709551616=c:=⟨_,rfl⟩
        have b3:IntKind.u64.wrap ((q':Int)*(Y:Int))=(bC:Int):=by rw[←Int.natCast_mul,IntKind.wrap_u64];omega
        rw[Nat.mul_comm Y] at bE
        obtain⟨bA,bAE⟩:∃ c,v*4294967296%18446744073709551616=c:=⟨_,rfl⟩
        have b1:IntKind.u64.wrap ((v:Int)*4294967296)=(bA:Int):=by rw[IntKind.wrap_u64];omega
        obtain⟨bB,bBE⟩:∃ c,(bA+d0)%18446744073709551616=c:=⟨_,rfl⟩
        have b2:IntKind.u64.wrap ((bA:Int)+(d0:Int))=(bB:Int):=by rw[IntKind.wrap_u64];omega
        have b4:IntKind.u64.wrap ((bB:Int)-(bC:Int))=(R:Int):=by
         rw[IntKind.wrap_u64]
         generalize q'*Y=P at *
         omega
        have HR0':=Lib.hid RE
        clear bE bCE bAE bBE RE
        obtain⟨Q1,hQ1⟩:∃ c:Nat,qa*4294967296=c:=⟨_,rfl⟩
        have c1:IntKind.u64.wrap ((qa:Int)*4294967296)=(Q1:Int):=by rw[IntKind.wrap_u64];omega
        obtain⟨Q,hQ⟩:∃ c:Nat,Q1+q'=c:=⟨_,rfl⟩
        have c2:IntKind.u64.wrap ((Q1:Int)+(q':Int))=(Q:Int):=by rw[IntKind.wrap_u64];omega
        have HR:Hid (Q=d64q hi lo y∧R / 2^s=d64r hi lo y):=by
         show Q=(hi*18446744073709551616+lo) / y∧R / 2^s=(hi*18446744073709551616+lo)%y
         have e2:=Knuth.two u d1 d0 Y (by omega)
         have el:=HE.out.2
         have eN:u*18446744073709551616+l=u*Knuth.h*Knuth.h+d1*Knuth.h+d0:=Knuth.join u l d1 d0 el
         rw[←eN] at e2
         rw[←hbk.1,←hbk.2,e2.1,e2.2]
         have x1:(u*Knuth.h+d1) / Y=qa:=HD1.out
         have x2:(u*Knuth.h+d1)%Y=v:=Hv.out
         have x3:(v*Knuth.h+d0) / Y=q':=hdq
         have x4:(v*Knuth.h+d0)%Y=R:=HR0'.out
         rw[x1,x2,x3,x4]
         refine⟨?_,rfl⟩
         show Q=qa*4294967296+q'
         rw[←hQ,←hQ1]
        clear hQ hQ1 hdq hq0 bQ
        go_wp2_with fail
        exact bodyPost_ret (v:=.tuple #[.int .u64 (Q:Nat),.int .u64 ((R:Int) / 2^s)]) (by simp[results,Tryz.results215]) rfl ⟨by rw[qcf,HR.out.1,HR.out.2],hB⟩
       ·clear hq2
        go_wp2_with fail
        go_roundw
        case rel=>exact⟨by first|trivial|rfl,q',r',rfl,rfl,by omega,HG2⟩
        case measure=>have:=HQ.out;simp[intOf];omega
      ·have HF:=Lib.hid (HS.out (by simp only[Knuth.h];omega) (by omega))
       have t1:¬ (4294967296:Int)≤(q:Int):=by omega
       have t2:¬ (k:Int)<(m:Int):=by omega
       clear hA hB hq1
       have hdq:(v*4294967296+d0) / Y=q:=by rw[HE.out.1];exact HF.out.symm
       have hq0:q<4294967296:=by rw[←hdq,HE.out.1];exact Knuth.digit_lt (y1:=y1) (y0:=y0) d0h (by have:=HE.out.1;show v<y1*4294967296+y0;omega)
       have bE:=Nat.div_add_mod (v*4294967296+d0) Y
       have bQ:(v*4294967296+d0) / Y=q:=hdq
       rw[bQ] at bE
       have bL:=Nat.mod_lt (v*4294967296+d0) (show 0<Y by omega)
       obtain⟨R,RE⟩:∃ z,(v*4294967296+d0)%Y=z:=⟨_,rfl⟩
       rw[RE] at bE bL
       obtain⟨bC,bCE⟩:∃ c,q*Y%18446744073709551616=c:=⟨_,rfl⟩
       have b3:IntKind.u64.wrap ((q:Int)*(Y:Int))=(bC:Int):=by rw[←Int.natCast_mul,IntKind.wrap_u64];omega
       rw[Nat.mul_comm Y] at bE
       obtain⟨bA,bAE⟩:∃ c,v*4294967296%18446744073709551616=c:=⟨_,rfl⟩
       have b1:IntKind.u64.wrap ((v:Int)*4294967296)=(bA:Int):=by rw[IntKind.wrap_u64];omega
       obtain⟨bB,bBE⟩:∃ c,(bA+d0)%18446744073709551616=c:=⟨_,rfl⟩
       have b2:IntKind.u64.wrap ((bA:Int)+(d0:Int))=(bB:Int):=by rw[IntKind.wrap_u64];omega
       have b4:IntKind.u64.wrap ((bB:Int)-(bC:Int))=(R:Int):=by
        rw[IntKind.wrap_u64]
        generalize q*Y=P at *
        omega
       have HR0':=Lib.hid RE
       clear bE bCE bAE bBE RE
       obtain⟨Q1,hQ1⟩:∃ c:Nat,qa*4294967296=c:=⟨_,rfl⟩
       have c1:IntKind.u64.wrap ((qa:Int)*4294967296)=(Q1:Int):=by rw[IntKind.wrap_u64];omega
       obtain⟨Q,hQ⟩:∃ c:Nat,Q1+q=c:=⟨_,rfl⟩
       have c2:IntKind.u64.wrap ((Q1:Int)+(q:Int))=(Q:Int):=by rw[IntKind.wrap_u64];omega
       have HR:Hid (Q=d64q hi lo y∧R / 2^s=d64r hi lo y):=by
        show Q=(hi*18446744073709551616+lo) / y∧R / 2^s=(hi*18446744073709551616+lo)%y
        have e2:=Knuth.two u d1 d0 Y (by omega)
        have el:=HE.out.2
        have eN:u*18446744073709551616+l=u*Knuth.h*Knuth.h+d1*Knuth.h+d0:=Knuth.join u l d1 d0 el
        rw[←eN] at e2
        rw[←hbk.1,←hbk.2,e2.1,e2.2]
        have x1:(u*Knuth.h+d1) / Y=qa:=HD1.out
        have x2:(u*Knuth.h+d1)%Y=v:=Hv.out
        have x3:(v*Knuth.h+d0) / Y=q:=hdq
        have x4:(v*Knuth.h+d0)%Y=R:=HR0'.out
        rw[x1,x2,x3,x4]
        refine⟨?_,rfl⟩
        show Q=qa*4294967296+q
        rw[←hQ,←hQ1]
       clear hQ hQ1 hdq hq0 bQ
       go_wp2_with fail
       exact bodyPost_ret (v:=.tuple #[.int .u64 (Q:Nat),.int .u64 ((R:Int) / 2^s)]) (by simp[results,Tryz.results215]) rfl ⟨by rw[qcf,HR.out.1,HR.out.2],hB⟩
   ·clear hq2
    go_wp2_with fail
    go_roundw
    case rel=>exact⟨by first|trivial|rfl,q',r',rfl,rfl,by omega,HG2⟩
    case measure=>have:=HQ.out;simp[intOf];omega
  ·by_cases hB:k<m
   ·have HT:Hid (Knuth.h≤q∨k<m):=.inr hB
    have t1:¬ (4294967296:Int)≤(q:Int):=by omega
    have t2:(k:Int)<(m:Int):=by omega
    clear hA hB
    obtain⟨h0q,hG2⟩:=HH.out (HT.out)
    obtain⟨q',hq'⟩:∃ q',q-1=q':=⟨_,rfl⟩
    rw[hq'] at hG2
    have HG2:=Lib.hid hG2
    have e4:IntKind.u64.wrap ((q:Int)-1)=(q':Int):=by rw[IntKind.wrap_u64];omega
    have HQ:=Lib.hid (show q=q'+1 from by omega)
    have hq2:q'≤4294967296:=by omega
    clear hG2 hq' h0q hq1
    by_cases hbr:(4294967296:Int)≤(r':Int)
    ·have HF:=Lib.hid (Knuth.stop' y0h d1h hu' HG2.out hq2 (by simp only[Knuth.h];omega))
     clear hq2
     have hdq1:(u*4294967296+d1) / Y=q':=by rw[HE.out.1];exact HF.out.symm
     have hq1h:q'<4294967296:=by rw[←hdq1,HE.out.1];exact Knuth.digit_lt (y1:=y1) (y0:=y0) d1h hu'
     have HD1:=Lib.hid hdq1
     have aE:=Nat.div_add_mod (u*4294967296+d1) Y
     have aQ:(u*4294967296+d1) / Y=q':=hdq1
     rw[aQ] at aE
     have aL:=Nat.mod_lt (u*4294967296+d1) (show 0<Y by omega)
     obtain⟨v,vE⟩:∃ z,(u*4294967296+d1)%Y=z:=⟨_,rfl⟩
     rw[vE] at aE aL
     obtain⟨aC,aCE⟩:∃ c,q'*Y%18446744073709551616=c:=⟨_,rfl⟩
     have a3:IntKind.u64.wrap ((q':Int)*(Y:Int))=(aC:Int):=by rw[←Int.natCast_mul,IntKind.wrap_u64];omega
     rw[Nat.mul_comm Y] at aE
     obtain⟨aA,aAE⟩:∃ c,u*4294967296%18446744073709551616=c:=⟨_,rfl⟩
     have a1:IntKind.u64.wrap ((u:Int)*4294967296)=(aA:Int):=by rw[IntKind.wrap_u64];omega
     obtain⟨aB,aBE⟩:∃ c,(aA+d1)%18446744073709551616=c:=⟨_,rfl⟩
     have a2:IntKind.u64.wrap ((aA:Int)+(d1:Int))=(aB:Int):=by rw[IntKind.wrap_u64];omega
     have a4:IntKind.u64.wrap ((aB:Int)-(aC:Int))=(v:Int):=by
      rw[IntKind.wrap_u64]
      generalize q'*Y=P at *
      omega
     have Hv:=Lib.hid vE
     clear aE aCE aAE aBE vE
     have hvY:v<Y:=aL
     clear aQ hdq1 aL HF
     obtain⟨qa,rfl⟩:∃ c,c=q':=⟨_,rfl⟩
     have G:=Knuth.first (u:=v) (d:=d0) y1a y1b y0h d0h (by have:=HE.out.1;show v<y1*4294967296+y0;omega)
     have hq1:=G.le
     have hq2:=G.sum
     have hr1:=Nat.mod_lt v (show 0<y1 by omega)
     have f8:(v:Int).tdiv y1=((v / y1:Nat):Int):=rfl
     have f8':(v:Int) / y1=((v / y1:Nat):Int):=rfl
     generalize v / y1=q0 at *
     generalize v%y1=r0 at *
     have hqy:((q0*y1:Nat):Int)=(q0:Int)*(y1:Int):=Int.natCast_mul _ _
     have f9:IntKind.u64.wrap ((q0:Int)*(y1:Int))=((q0*y1:Nat):Int):=by rw[IntKind.wrap_u64,←hqy];omega
     have f10:IntKind.u64.wrap ((v:Int)-((q0*y1:Nat):Int))=(r0:Int):=by rw[IntKind.wrap_u64];omega
     have f11:IntKind.u64.wrap (q0:Int)=(q0:Int):=by rw[IntKind.wrap_u64];simp only[Knuth.h] at hq1;omega
     generalize hqq:q0*y1=qy at *
     clear hqy hqq hq2
     go_wp2_with fail
     clear f8 f8' f9 f10 f11 a1 a2 a3 a4 e1 e2 e3 e5
     have hr2':r0<4294967296:=by omega
     have HG':=Lib.hid G
     clear G hq1 hr1 HG hr2 HH HS
     have hr2:=hr2'
     have HG:=HG'
     clear hr2' HG'
     go_loopw [16,18] (fun a b wr=>wr=w∧∃ q r:Nat,b=.int .u64 q∧a=.int .u64 r∧r<4294967296∧Hid (Knuth.Guess y1 y0 v d0 q r)) (fun a b _=>(intOf b).toNat)
     case atStart=>exact⟨rfl,_,_,rfl,rfl,hr2,HG⟩
     case round=>
      clear HG hr2
      obtain⟨e0,q,r,rfl,rfl,hr2,HG⟩:=hrel
      have e0':=e0.symm
      clear e0
      subst e0'
      have hu':v<y1*Knuth.h+y0:=by have:=HE.out.1;show v<y1*4294967296+y0;omega
      have hq1:q≤4294967297:=HG.out.le
      obtain⟨m,hm⟩:∃ m:Nat,q*y0=m:=⟨_,rfl⟩
      have hm1:m≤4294967297*4294967295:=by rw[←hm];exact Nat.mul_le_mul hq1 (by omega)
      have e1:IntKind.u64.wrap ((q:Int)*(y0:Int))=(m:Int):=by
       rw[←Int.natCast_mul,hm,IntKind.wrap_u64];omega
      obtain⟨k0,hk0⟩:∃ k:Nat,4294967296*r=k:=⟨_,rfl⟩
      have e2:IntKind.u64.wrap (4294967296*(r:Int))=(k0:Int):=by rw[IntKind.wrap_u64];omega
      obtain⟨k,hk⟩:∃ k:Nat,k0+d0=k:=⟨_,rfl⟩
      have e3:IntKind.u64.wrap ((k0:Int)+(d0:Int))=(k:Int):=by rw[IntKind.wrap_u64];omega
      have hkk:Knuth.h*r+d0=k:=by simp only[Knuth.h];omega
      have hdn:Knuth.h≤q∨k<m→0<q∧Knuth.Guess y1 y0 v d0 (q-1) (r+y1):=fun ht=>Knuth.down d0h hu' HG.out (by rw[hkk,hm];exact ht)
      have hst:q<Knuth.h→m≤k→q=(v*Knuth.h+d0) / (y1*Knuth.h+y0):=fun h1 h2=>Knuth.stop d0h hu' HG.out h1 (by rw[hkk,hm];exact h2)
      obtain⟨r',hr'⟩:∃ r',r+y1=r':=⟨_,rfl⟩
      have e5:IntKind.u64.wrap ((r:Int)+(y1:Int))=(r':Int):=by rw[IntKind.wrap_u64];omega
      have hr3:r'<18446744073709551616:=by omega
      rw[hr'] at hdn
      have HH:=Lib.hid hdn
      have HS:=Lib.hid hst
      have hq64:(q:Int)<18446744073709551616:=by omega
      clear hm hk0 hk hkk hdn hst hm1 hr'
      by_cases hA:4294967296≤q
      ·have HT:Hid (Knuth.h≤q∨k<m):=.inl hA
       have t1:decide ((q:Int)≥4294967296)=true:=decide_eq_true (by omega)
       have t1':(4294967296:Int)≤(q:Int):=by omega
       clear hA
       obtain⟨h0q,hG2⟩:=HH.out (HT.out)
       obtain⟨q',hq'⟩:∃ q',q-1=q':=⟨_,rfl⟩
       rw[hq'] at hG2
       have HG2:=Lib.hid hG2
       have e4:IntKind.u64.wrap ((q:Int)-1)=(q':Int):=by rw[IntKind.wrap_u64];omega
       have HQ:=Lib.hid (show q=q'+1 from by omega)
       have hq2:q'≤4294967296:=by omega
       clear hG2 hq' h0q hq1
       by_cases hbr:(4294967296:Int)≤(r':Int)
       ·have HF:=Lib.hid (Knuth.stop' y0h d0h hu' HG2.out hq2 (by simp only[Knuth.h];omega))
        clear hq2
        have hdq:(v*4294967296+d0) / Y=q':=by rw[HE.out.1];exact HF.out.symm
        have hq0:q'<4294967296:=by rw[←hdq,HE.out.1];exact Knuth.digit_lt (y1:=y1) (y0:=y0) d0h (by have:=HE.out.1;show v<y1*4294967296+y0;omega)
        have bE:=Nat.div_add_mod (v*4294967296+d0) Y
        have bQ:(v*4294967296+d0) / Y=q':=hdq
        rw[bQ] at bE
        have bL:=Nat.mod_lt (v*4294967296+d0) (show 0<Y by omega)
        obtain⟨R,RE⟩:∃ z,(v*4294967296+d0)%Y=z:=⟨_,rfl⟩
        rw[RE] at bE bL
        obtain⟨bC,bCE⟩:∃ c,q'*Y%18446744073709551616=c:=⟨_,rfl⟩
        have b3:IntKind.u64.wrap ((q':Int)*(Y:Int))=(bC:Int):=by rw[←Int.natCast_mul,IntKind.wrap_u64];omega
        rw[Nat.mul_comm Y] at bE
        obtain⟨bA,bAE⟩:∃ c,v*4294967296%18446744073709551616=c:=⟨_,rfl⟩
        have b1:IntKind.u64.wrap ((v:Int)*4294967296)=(bA:Int):=by rw[IntKind.wrap_u64];omega
        obtain⟨bB,bBE⟩:∃ c,(bA+d0)%18446744073709551616=c:=⟨_,rfl⟩
        have b2:IntKind.u64.wrap ((bA:Int)+(d0:Int))=(bB:Int):=by rw[IntKind.wrap_u64];omega
        have b4:IntKind.u64.wrap ((bB:Int)-(bC:Int))=(R:Int):=by
         rw[IntKind.wrap_u64]
         generalize q'*Y=P at *
         omega
        have HR0':=Lib.hid RE
        clear bE bCE bAE bBE RE
        obtain⟨Q1,hQ1⟩:∃ c:Nat,qa*4294967296=c:=⟨_,rfl⟩
        have c1:IntKind.u64.wrap ((qa:Int)*4294967296)=(Q1:Int):=by rw[IntKind.wrap_u64];omega
        obtain⟨Q,hQ⟩:∃ c:Nat,Q1+q'=c:=⟨_,rfl⟩
        have c2:IntKind.u64.wrap ((Q1:Int)+(q':Int))=(Q:Int):=by rw[IntKind.wrap_u64];omega
        have HR:Hid (Q=d64q hi lo y∧R / 2^s=d64r hi lo y):=by
         show Q=(hi*18446744073709551616+lo) / y∧R / 2^s=(hi*18446744073709551616+lo)%y
         have e2:=Knuth.two u d1 d0 Y (by omega)
         have el:=HE.out.2
         have eN:u*18446744073709551616+l=u*Knuth.h*Knuth.h+d1*Knuth.h+d0:=Knuth.join u l d1 d0 el
         rw[←eN] at e2
         rw[←hbk.1,←hbk.2,e2.1,e2.2]
         have x1:(u*Knuth.h+d1) / Y=qa:=HD1.out
         have x2:(u*Knuth.h+d1)%Y=v:=Hv.out
         have x3:(v*Knuth.h+d0) / Y=q':=hdq
         have x4:(v*Knuth.h+d0)%Y=R:=HR0'.out
         rw[x1,x2,x3,x4]
         refine⟨?_,rfl⟩
         show Q=qa*4294967296+q'
         rw[←hQ,←hQ1]
        clear hQ hQ1 hdq hq0 bQ
        go_wp2_with fail
        exact bodyPost_ret (v:=.tuple #[.int .u64 (Q:Nat),.int .u64 ((R:Int) / 2^s)]) (by simp[results,Tryz.results215]) rfl ⟨by rw[qcf,HR.out.1,HR.out.2],hB⟩
       ·clear hq2
        go_wp2_with fail
        go_roundw
        case rel=>exact⟨by first|trivial|rfl,q',r',rfl,rfl,by omega,HG2⟩
        case measure=>have:=HQ.out;simp[intOf];omega
      ·by_cases hB:k<m
       ·have HT:Hid (Knuth.h≤q∨k<m):=.inr hB
        have t1:¬ (4294967296:Int)≤(q:Int):=by omega
        have t2:(k:Int)<(m:Int):=by omega
        clear hA hB
        obtain⟨h0q,hG2⟩:=HH.out (HT.out)
        obtain⟨q',hq'⟩:∃ q',q-1=q':=⟨_,rfl⟩
        rw[hq'] at hG2
        have HG2:=Lib.hid hG2
        have e4:IntKind.u64.wrap ((q:Int)-1)=(q':Int):=by rw[IntKind.wrap_u64];omega
        have HQ:=Lib.hid (show q=q'+1 from by omega)
        have hq2:q'≤4294967296:=by omega
        clear hG2 hq' h0q hq1
        by_cases hbr:(4294967296:Int)≤(r':Int)
        ·have HF:=Lib.hid (Knuth.stop' y0h d0h hu' HG2.out hq2 (by simp only[Knuth.h];omega))
         clear hq2
         have hdq:(v*4294967296+d0) / Y=q':=by rw[HE.out.1];exact HF.out.symm
         have hq0:q'<4294967296:=by rw[←hdq,HE.out.1];exact Knuth.digit_lt (y1:=y1) (y0:=y0) d0h (by have:=HE.out.1;show v<y1*4294967296+y0;omega)
         have bE:=Nat.div_add_mod (v*4294967296+d0) Y
         have bQ:(v*4294967296+d0) / Y=q':=hdq
         rw[bQ] at bE
         have bL:=Nat.mod_lt (v*4294967296+d0) (show 0<Y by omega)
         obtain⟨R,RE⟩:∃ z,(v*4294967296+d0)%Y=z:=⟨_,rfl⟩
         rw[RE] at bE bL
         obtain⟨bC,bCE⟩:∃ c,q'*Y%18446744073709551616=c:=⟨_,rfl⟩
         have b3:IntKind.u64.wrap ((q':Int)*(Y:Int))=(bC:Int):=by rw[←Int.natCast_mul,IntKind.wrap_u64];omega
         rw[Nat.mul_comm Y] at bE
         obtain⟨bA,bAE⟩:∃ c,v*4294967296%18446744073709551616=c:=⟨_,rfl⟩
         have b1:IntKind.u64.wrap ((v:Int)*4294967296)=(bA:Int):=by rw[IntKind.wrap_u64];omega
         obtain⟨bB,bBE⟩:∃ c,(bA+d0)%18446744073709551616=c:=⟨_,rfl⟩
         have b2:IntKind.u64.wrap ((bA:Int)+(d0:Int))=(bB:Int):=by rw[IntKind.wrap_u64];omega
         have b4:IntKind.u64.wrap ((bB:Int)-(bC:Int))=(R:Int):=by
          rw[IntKind.wrap_u64]
          generalize q'*Y=P at *
          omega
         have HR0':=Lib.hid RE
         clear bE bCE bAE bBE RE
         obtain⟨Q1,hQ1⟩:∃ c:Nat,qa*4294967296=c:=⟨_,rfl⟩
         have c1:IntKind.u64.wrap ((qa:Int)*4294967296)=(Q1:Int):=by rw[IntKind.wrap_u64];omega
         obtain⟨Q,hQ⟩:∃ c:Nat,Q1+q'=c:=⟨_,rfl⟩
         have c2:IntKind.u64.wrap ((Q1:Int)+(q':Int))=(Q:Int):=by rw[IntKind.wrap_u64];omega
         have HR:Hid (Q=d64q hi lo y∧R / 2^s=d64r hi lo y):=by
          show Q=(hi*18446744073709551616+lo) / y∧R / 2^s=(hi*18446744073709551616+lo)%y
          have e2:=Knuth.two u d1 d0 Y (by omega)
          have el:=HE.out.2
          have eN:u*18446744073709551616+l=u*Knuth.h*Knuth.h+d1*Knuth.h+d0:=Knuth.join u l d1 d0 el
          rw[←eN] at e2
          rw[←hbk.1,←hbk.2,e2.1,e2.2]
          have x1:(u*Knuth.h+d1) / Y=qa:=HD1.out
          have x2:(u*Knuth.h+d1)%Y=v:=Hv.out
          have x3:(v*Knuth.h+d0) / Y=q':=hdq
          have x4:(v*Knuth.h+d0)%Y=R:=HR0'.out
          rw[x1,x2,x3,x4]
          refine⟨?_,rfl⟩
          show Q=qa*4294967296+q'
          rw[←hQ,←hQ1]
         clear hQ hQ1 hdq hq0 bQ
         go_wp2_with fail
         exact bodyPost_ret (v:=.tuple #[.int .u64 (Q:Nat),.int .u64 ((R:Int) / 2^s)]) (by simp[results,Tryz.results215]) rfl ⟨by rw[qcf,HR.out.1,HR.out.2],hB⟩
        ·clear hq2
         go_wp2_with fail
         go_roundw
         case rel=>exact⟨by first|trivial|rfl,q',r',rfl,rfl,by omega,HG2⟩
         case measure=>have:=HQ.out;simp[intOf];omega
       ·have HF:=Lib.hid (HS.out (by simp only[Knuth.h];omega) (by omega))
        have t1:¬ (4294967296:Int)≤(q:Int):=by omega
        have t2:¬ (k:Int)<(m:Int):=by omega
        clear hA hB hq1
        have hdq:(v*4294967296+d0) / Y=q:=by rw[HE.out.1];exact HF.out.symm
        have hq0:q<4294967296:=by rw[←hdq,HE.out.1];exact Knuth.digit_lt (y1:=y1) (y0:=y0) d0h (by have:=HE.out.1;show v<y1*4294967296+y0;omega)
        have bE:=Nat.div_add_mod (v*4294967296+d0) Y
        have bQ:(v*4294967296+d0) / Y=q:=hdq
        rw[bQ] at bE
        have bL:=Nat.mod_lt (v*4294967296+d0) (show 0<Y by omega)
        obtain⟨R,RE⟩:∃ z,(v*4294967296+d0)%Y=z:=⟨_,rfl⟩
        rw[RE] at bE bL
        obtain⟨bC,bCE⟩:∃ c,q*Y%18446744073709551616=c:=⟨_,rfl⟩
        have b3:IntKind.u64.wrap ((q:Int)*(Y:Int))=(bC:Int):=by rw[←Int.natCast_mul,IntKind.wrap_u64];omega
        rw[Nat.mul_comm Y] at bE
        obtain⟨bA,bAE⟩:∃ c,v*4294967296%18446744073709551616=c:=⟨_,rfl⟩
        have b1:IntKind.u64.wrap ((v:Int)*4294967296)=(bA:Int):=by rw[IntKind.wrap_u64];omega
        obtain⟨bB,bBE⟩:∃ c,(bA+d0)%18446744073709551616=c:=⟨_,rfl⟩
        have b2:IntKind.u64.wrap ((bA:Int)+(d0:Int))=(bB:Int):=by rw[IntKind.wrap_u64];omega
        have b4:IntKind.u64.wrap ((bB:Int)-(bC:Int))=(R:Int):=by
         rw[IntKind.wrap_u64]
         generalize q*Y=P at *
         omega
        have HR0':=Lib.hid RE
        clear bE bCE bAE bBE RE
        obtain⟨Q1,hQ1⟩:∃ c:Nat,qa*4294967296=c:=⟨_,rfl⟩
        have c1:IntKind.u64.wrap ((qa:Int)*4294967296)=(Q1:Int):=by rw[IntKind.wrap_u64];omega
        obtain⟨Q,hQ⟩:∃ c:Nat,Q1+q=c:=⟨_,rfl⟩
        have c2:IntKind.u64.wrap ((Q1:Int)+(q:Int))=(Q:Int):=by rw[IntKind.wrap_u64];omega
        have HR:Hid (Q=d64q hi lo y∧R / 2^s=d64r hi lo y):=by
         show Q=(hi*18446744073709551616+lo) / y∧R / 2^s=(hi*18446744073709551616+lo)%y
         have e2:=Knuth.two u d1 d0 Y (by omega)
         have el:=HE.out.2
         have eN:u*18446744073709551616+l=u*Knuth.h*Knuth.h+d1*Knuth.h+d0:=Knuth.join u l d1 d0 el
         rw[←eN] at e2
         rw[←hbk.1,←hbk.2,e2.1,e2.2]
         have x1:(u*Knuth.h+d1) / Y=qa:=HD1.out
         have x2:(u*Knuth.h+d1)%Y=v:=Hv.out
         have x3:(v*Knuth.h+d0) / Y=q:=hdq
         have x4:(v*Knuth.h+d0)%Y=R:=HR0'.out
         rw[x1,x2,x3,x4]
         refine⟨?_,rfl⟩
         show Q=qa*4294967296+q
         rw[←hQ,←hQ1]
        clear hQ hQ1 hdq hq0 bQ
        go_wp2_with fail
        exact bodyPost_ret (v:=.tuple #[.int .u64 (Q:Nat),.int .u64 ((R:Int) / 2^s)]) (by simp[results,Tryz.results215]) rfl ⟨by rw[qcf,HR.out.1,HR.out.2],hB⟩
    ·clear hq2
     go_wp2_with fail
     go_roundw
     case rel=>exact⟨by first|trivial|rfl,q',r',rfl,rfl,by omega,HG2⟩
     case measure=>have:=HQ.out;simp[intOf];omega
   ·have HF:=Lib.hid (HS.out (by simp only[Knuth.h];omega) (by omega))
    have t1:¬ (4294967296:Int)≤(q:Int):=by omega
    have t2:¬ (k:Int)<(m:Int):=by omega
    clear hA hB hq1
    have hdq1:(u*4294967296+d1) / Y=q:=by rw[HE.out.1];exact HF.out.symm
    have hq1h:q<4294967296:=by rw[←hdq1,HE.out.1];exact Knuth.digit_lt (y1:=y1) (y0:=y0) d1h hu'
    have HD1:=Lib.hid hdq1
    have aE:=Nat.div_add_mod (u*4294967296+d1) Y
    have aQ:(u*4294967296+d1) / Y=q:=hdq1
    rw[aQ] at aE
    have aL:=Nat.mod_lt (u*4294967296+d1) (show 0<Y by omega)
    obtain⟨v,vE⟩:∃ z,(u*4294967296+d1)%Y=z:=⟨_,rfl⟩
    rw[vE] at aE aL
    obtain⟨aC,aCE⟩:∃ c,q*Y%18446744073709551616=c:=⟨_,rfl⟩
    have a3:IntKind.u64.wrap ((q:Int)*(Y:Int))=(aC:Int):=by rw[←Int.natCast_mul,IntKind.wrap_u64];omega
    rw[Nat.mul_comm Y] at aE
    obtain⟨aA,aAE⟩:∃ c,u*4294967296%18446744073709551616=c:=⟨_,rfl⟩
    have a1:IntKind.u64.wrap ((u:Int)*4294967296)=(aA:Int):=by rw[IntKind.wrap_u64];omega
    obtain⟨aB,aBE⟩:∃ c,(aA+d1)%18446744073709551616=c:=⟨_,rfl⟩
    have a2:IntKind.u64.wrap ((aA:Int)+(d1:Int))=(aB:Int):=by rw[IntKind.wrap_u64];omega
    have a4:IntKind.u64.wrap ((aB:Int)-(aC:Int))=(v:Int):=by
     rw[IntKind.wrap_u64]
     generalize q*Y=P at *
     omega
    have Hv:=Lib.hid vE
    clear aE aCE aAE aBE vE
    have hvY:v<Y:=aL
    clear aQ hdq1 aL HF
    obtain⟨qa,rfl⟩:∃ c,c=q:=⟨_,rfl⟩
    have G:=Knuth.first (u:=v) (d:=d0) y1a y1b y0h d0h (by have:=HE.out.1;show v<y1*4294967296+y0;omega)
    have hq1:=G.le
    have hq2:=G.sum
    have hr1:=Nat.mod_lt v (show 0<y1 by omega)
    have f8:(v:Int).tdiv y1=((v / y1:Nat):Int):=rfl
    have f8':(v:Int) / y1=((v / y1:Nat):Int):=rfl
    generalize v / y1=q0 at *
    generalize v%y1=r0 at *
    have hqy:((q0*y1:Nat):Int)=(q0:Int)*(y1:Int):=Int.natCast_mul _ _
    have f9:IntKind.u64.wrap ((q0:Int)*(y1:Int))=((q0*y1:Nat):Int):=by rw[IntKind.wrap_u64,←hqy];omega
    have f10:IntKind.u64.wrap ((v:Int)-((q0*y1:Nat):Int))=(r0:Int):=by rw[IntKind.wrap_u64];omega
    have f11:IntKind.u64.wrap (q0:Int)=(q0:Int):=by rw[IntKind.wrap_u64];simp only[Knuth.h] at hq1;omega
    generalize hqq:q0*y1=qy at *
    clear hqy hqq hq2
    go_wp2_with fail
    clear f8 f8' f9 f10 f11 a1 a2 a3 a4 e1 e2 e3 e5
    have hr2':r0<4294967296:=by omega
    have HG':=Lib.hid G
    clear G hq1 hr1 HG hr2 HH HS
    have hr2:=hr2'
    have HG:=HG'
    clear hr2' HG'
    go_loopw [16,18] (fun a b wr=>wr=w∧∃ q r:Nat,b=.int .u64 q∧a=.int .u64 r∧r<4294967296∧Hid (Knuth.Guess y1 y0 v d0 q r)) (fun a b _=>(intOf b).toNat)
    case atStart=>exact⟨rfl,_,_,rfl,rfl,hr2,HG⟩
    case round=>
     clear HG hr2
     obtain⟨e0,q,r,rfl,rfl,hr2,HG⟩:=hrel
     have e0':=e0.symm
     clear e0
     subst e0'
     have hu':v<y1*Knuth.h+y0:=by have:=HE.out.1;show v<y1*4294967296+y0;omega
     have hq1:q≤4294967297:=HG.out.le
     obtain⟨m,hm⟩:∃ m:Nat,q*y0=m:=⟨_,rfl⟩
     have hm1:m≤4294967297*4294967295:=by rw[←hm];exact Nat.mul_le_mul hq1 (by omega)
     have e1:IntKind.u64.wrap ((q:Int)*(y0:Int))=(m:Int):=by
      rw[←Int.natCast_mul,hm,IntKind.wrap_u64];omega
     obtain⟨k0,hk0⟩:∃ k:Nat,4294967296*r=k:=⟨_,rfl⟩
     have e2:IntKind.u64.wrap (4294967296*(r:Int))=(k0:Int):=by rw[IntKind.wrap_u64];omega
     obtain⟨k,hk⟩:∃ k:Nat,k0+d0=k:=⟨_,rfl⟩
     have e3:IntKind.u64.wrap ((k0:Int)+(d0:Int))=(k:Int):=by rw[IntKind.wrap_u64];omega
     have hkk:Knuth.h*r+d0=k:=by simp only[Knuth.h];omega
     have hdn:Knuth.h≤q∨k<m→0<q∧Knuth.Guess y1 y0 v d0 (q-1) (r+y1):=fun ht=>Knuth.down d0h hu' HG.out (by rw[hkk,hm];exact ht)
     have hst:q<Knuth.h→m≤k→q=(v*Knuth.h+d0) / (y1*Knuth.h+y0):=fun h1 h2=>Knuth.stop d0h hu' HG.out h1 (by rw[hkk,hm];exact h2)
     obtain⟨r',hr'⟩:∃ r',r+y1=r':=⟨_,rfl⟩
     have e5:IntKind.u64.wrap ((r:Int)+(y1:Int))=(r':Int):=by rw[IntKind.wrap_u64];omega
     have hr3:r'<18446744073709551616:=by omega
     rw[hr'] at hdn
     have HH:=Lib.hid hdn
     have HS:=Lib.hid hst
     have hq64:(q:Int)<18446744073709551616:=by omega
     clear hm hk0 hk hkk hdn hst hm1 hr'
     by_cases hA:4294967296≤q
     ·have HT:Hid (Knuth.h≤q∨k<m):=.inl hA
      have t1:decide ((q:Int)≥4294967296)=true:=decide_eq_true (by omega)
      have t1':(4294967296:Int)≤(q:Int):=by omega
      clear hA
      obtain⟨h0q,hG2⟩:=HH.out (HT.out)
      obtain⟨q',hq'⟩:∃ q',q-1=q':=⟨_,rfl⟩
      rw[hq'] at hG2
      have HG2:=Lib.hid hG2
      have e4:IntKind.u64.wrap ((q:Int)-1)=(q':Int):=by rw[IntKind.wrap_u64];omega
      have HQ:=Lib.hid (show q=q'+1 from by omega)
      have hq2:q'≤4294967296:=by omega
      clear hG2 hq' h0q hq1
      by_cases hbr:(4294967296:Int)≤(r':Int)
      ·have HF:=Lib.hid (Knuth.stop' y0h d0h hu' HG2.out hq2 (by simp only[Knuth.h];omega))
       clear hq2
       have hdq:(v*4294967296+d0) / Y=q':=by rw[HE.out.1];exact HF.out.symm
       have hq0:q'<4294967296:=by rw[←hdq,HE.out.1];exact Knuth.digit_lt (y1:=y1) (y0:=y0) d0h (by have:=HE.out.1;show v<y1*4294967296+y0;omega)
       have bE:=Nat.div_add_mod (v*4294967296+d0) Y
       have bQ:(v*4294967296+d0) / Y=q':=hdq
       rw[bQ] at bE
       have bL:=Nat.mod_lt (v*4294967296+d0) (show 0<Y by omega)
       obtain⟨R,RE⟩:∃ z,(v*4294967296+d0)%Y=z:=⟨_,rfl⟩
       rw[RE] at bE bL
       obtain⟨bC,bCE⟩:∃ c,q'*Y%18446744073709551616=c:=⟨_,rfl⟩
       have b3:IntKind.u64.wrap ((q':Int)*(Y:Int))=(bC:Int):=by rw[←Int.natCast_mul,IntKind.wrap_u64];omega
       rw[Nat.mul_comm Y] at bE
       obtain⟨bA,bAE⟩:∃ c,v*4294967296%18446744073709551616=c:=⟨_,rfl⟩
       have b1:IntKind.u64.wrap ((v:Int)*4294967296)=(bA:Int):=by rw[IntKind.wrap_u64];omega
       obtain⟨bB,bBE⟩:∃ c,(bA+d0)%18446744073709551616=c:=⟨_,rfl⟩
       have b2:IntKind.u64.wrap ((bA:Int)+(d0:Int))=(bB:Int):=by rw[IntKind.wrap_u64];omega
       have b4:IntKind.u64.wrap ((bB:Int)-(bC:Int))=(R:Int):=by
        rw[IntKind.wrap_u64]
        generalize q'*Y=P at *
        omega
       have HR0':=Lib.hid RE
       clear bE bCE bAE bBE RE
       obtain⟨Q1,hQ1⟩:∃ c:Nat,qa*4294967296=c:=⟨_,rfl⟩
       have c1:IntKind.u64.wrap ((qa:Int)*4294967296)=(Q1:Int):=by rw[IntKind.wrap_u64];omega
       obtain⟨Q,hQ⟩:∃ c:Nat,Q1+q'=c:=⟨_,rfl⟩
       have c2:IntKind.u64.wrap ((Q1:Int)+(q':Int))=(Q:Int):=by rw[IntKind.wrap_u64];omega
       have HR:Hid (Q=d64q hi lo y∧R / 2^s=d64r hi lo y):=by
        show Q=(hi*18446744073709551616+lo) / y∧R / 2^s=(hi*18446744073709551616+lo)%y
        have e2:=Knuth.two u d1 d0 Y (by omega)
        have el:=HE.out.2
        have eN:u*18446744073709551616+l=u*Knuth.h*Knuth.h+d1*Knuth.h+d0:=Knuth.join u l d1 d0 el
        rw[←eN] at e2
        rw[←hbk.1,←hbk.2,e2.1,e2.2]
        have x1:(u*Knuth.h+d1) / Y=qa:=HD1.out
        have x2:(u*Knuth.h+d1)%Y=v:=Hv.out
        have x3:(v*Knuth.h+d0) / Y=q':=hdq
        have x4:(v*Knuth.h+d0)%Y=R:=HR0'.out
        rw[x1,x2,x3,x4]
        refine⟨?_,rfl⟩
        show Q=qa*4294967296+q'
        rw[←hQ,←hQ1]
       clear hQ hQ1 hdq hq0 bQ
       go_wp2_with fail
       exact bodyPost_ret (v:=.tuple #[.int .u64 (Q:Nat),.int .u64 ((R:Int) / 2^s)]) (by simp[results,Tryz.results215]) rfl ⟨by rw[qcf,HR.out.1,HR.out.2],hB⟩
      ·clear hq2
       go_wp2_with fail
       go_roundw
       case rel=>exact⟨by first|trivial|rfl,q',r',rfl,rfl,by omega,HG2⟩
       case measure=>have:=HQ.out;simp[intOf];omega
     ·by_cases hB:k<m
      ·have HT:Hid (Knuth.h≤q∨k<m):=.inr hB
       have t1:¬ (4294967296:Int)≤(q:Int):=by omega
       have t2:(k:Int)<(m:Int):=by omega
       clear hA hB
       obtain⟨h0q,hG2⟩:=HH.out (HT.out)
       obtain⟨q',hq'⟩:∃ q',q-1=q':=⟨_,rfl⟩
       rw[hq'] at hG2
       have HG2:=Lib.hid hG2
       have e4:IntKind.u64.wrap ((q:Int)-1)=(q':Int):=by rw[IntKind.wrap_u64];omega
       have HQ:=Lib.hid (show q=q'+1 from by omega)
       have hq2:q'≤4294967296:=by omega
       clear hG2 hq' h0q hq1
       by_cases hbr:(4294967296:Int)≤(r':Int)
       ·have HF:=Lib.hid (Knuth.stop' y0h d0h hu' HG2.out hq2 (by simp only[Knuth.h];omega))
        clear hq2
        have hdq:(v*4294967296+d0) / Y=q':=by rw[HE.out.1];exact HF.out.symm
        have hq0:q'<4294967296:=by rw[←hdq,HE.out.1];exact Knuth.digit_lt (y1:=y1) (y0:=y0) d0h (by have:=HE.out.1;show v<y1*4294967296+y0;omega)
        have bE:=Nat.div_add_mod (v*4294967296+d0) Y
        have bQ:(v*4294967296+d0) / Y=q':=hdq
        rw[bQ] at bE
        have bL:=Nat.mod_lt (v*4294967296+d0) (show 0<Y by omega)
        obtain⟨R,RE⟩:∃ z,(v*4294967296+d0)%Y=z:=⟨_,rfl⟩
        rw[RE] at bE bL
        obtain⟨bC,bCE⟩:∃ c,q'*Y%18446744073709551616=c:=⟨_,rfl⟩
        have b3:IntKind.u64.wrap ((q':Int)*(Y:Int))=(bC:Int):=by rw[←Int.natCast_mul,IntKind.wrap_u64];omega
        rw[Nat.mul_comm Y] at bE
        obtain⟨bA,bAE⟩:∃ c,v*4294967296%18446744073709551616=c:=⟨_,rfl⟩
        have b1:IntKind.u64.wrap ((v:Int)*4294967296)=(bA:Int):=by rw[IntKind.wrap_u64];omega
        obtain⟨bB,bBE⟩:∃ c,(bA+d0)%18446744073709551616=c:=⟨_,rfl⟩
        have b2:IntKind.u64.wrap ((bA:Int)+(d0:Int))=(bB:Int):=by rw[IntKind.wrap_u64];omega
        have b4:IntKind.u64.wrap ((bB:Int)-(bC:Int))=(R:Int):=by
         rw[IntKind.wrap_u64]
         generalize q'*Y=P at *
         omega
        have HR0':=Lib.hid RE
        clear bE bCE bAE bBE RE
        obtain⟨Q1,hQ1⟩:∃ c:Nat,qa*4294967296=c:=⟨_,rfl⟩
        have c1:IntKind.u64.wrap ((qa:Int)*4294967296)=(Q1:Int):=by rw[IntKind.wrap_u64];omega
        obtain⟨Q,hQ⟩:∃ c:Nat,Q1+q'=c:=⟨_,rfl⟩
        have c2:IntKind.u64.wrap ((Q1:Int)+(q':Int))=(Q:Int):=by rw[IntKind.wrap_u64];omega
        have HR:Hid (Q=d64q hi lo y∧R / 2^s=d64r hi lo y):=by
         show Q=(hi*18446744073709551616+lo) / y∧R / 2^s=(hi*18446744073709551616+lo)%y
         have e2:=Knuth.two u d1 d0 Y (by omega)
         have el:=HE.out.2
         have eN:u*18446744073709551616+l=u*Knuth.h*Knuth.h+d1*Knuth.h+d0:=Knuth.join u l d1 d0 el
         rw[←eN] at e2
         rw[←hbk.1,←hbk.2,e2.1,e2.2]
         have x1:(u*Knuth.h+d1) / Y=qa:=HD1.out
         have x2:(u*Knuth.h+d1)%Y=v:=Hv.out
         have x3:(v*Knuth.h+d0) / Y=q':=hdq
         have x4:(v*Knuth.h+d0)%Y=R:=HR0'.out
         rw[x1,x2,x3,x4]
         refine⟨?_,rfl⟩
         show Q=qa*4294967296+q'
         rw[←hQ,←hQ1]
        clear hQ hQ1 hdq hq0 bQ
        go_wp2_with fail
        exact bodyPost_ret (v:=.tuple #[.int .u64 (Q:Nat),.int .u64 ((R:Int) / 2^s)]) (by simp[results,Tryz.results215]) rfl ⟨by rw[qcf,HR.out.1,HR.out.2],hB⟩
       ·clear hq2
        go_wp2_with fail
        go_roundw
        case rel=>exact⟨by first|trivial|rfl,q',r',rfl,rfl,by omega,HG2⟩
        case measure=>have:=HQ.out;simp[intOf];omega
      ·have HF:=Lib.hid (HS.out (by simp only[Knuth.h];omega) (by omega))
       have t1:¬ (4294967296:Int)≤(q:Int):=by omega
       have t2:¬ (k:Int)<(m:Int):=by omega
       clear hA hB hq1
       have hdq:(v*4294967296+d0) / Y=q:=by rw[HE.out.1];exact HF.out.symm
       have hq0:q<4294967296:=by rw[←hdq,HE.out.1];exact Knuth.digit_lt (y1:=y1) (y0:=y0) d0h (by have:=HE.out.1;show v<y1*4294967296+y0;omega)
       have bE:=Nat.div_add_mod (v*4294967296+d0) Y
       have bQ:(v*4294967296+d0) / Y=q:=hdq
       rw[bQ] at bE
       have bL:=Nat.mod_lt (v*4294967296+d0) (show 0<Y by omega)
       obtain⟨R,RE⟩:∃ z,(v*4294967296+d0)%Y=z:=⟨_,rfl⟩
       rw[RE] at bE bL
       obtain⟨bC,bCE⟩:∃ c,q*Y%18446744073709551616=c:=⟨_,rfl⟩
       have b3:IntKind.u64.wrap ((q:Int)*(Y:Int))=(bC:Int):=by rw[←Int.natCast_mul,IntKind.wrap_u64];omega
       rw[Nat.mul_comm Y] at bE
       obtain⟨bA,bAE⟩:∃ c,v*4294967296%18446744073709551616=c:=⟨_,rfl⟩
       have b1:IntKind.u64.wrap ((v:Int)*4294967296)=(bA:Int):=by rw[IntKind.wrap_u64];omega
       obtain⟨bB,bBE⟩:∃ c,(bA+d0)%18446744073709551616=c:=⟨_,rfl⟩
       have b2:IntKind.u64.wrap ((bA:Int)+(d0:Int))=(bB:Int):=by rw[IntKind.wrap_u64];omega
       have b4:IntKind.u64.wrap ((bB:Int)-(bC:Int))=(R:Int):=by
        rw[IntKind.wrap_u64]
        generalize q*Y=P at *
        omega
       have HR0':=Lib.hid RE
       clear bE bCE bAE bBE RE
       obtain⟨Q1,hQ1⟩:∃ c:Nat,qa*4294967296=c:=⟨_,rfl⟩
       have c1:IntKind.u64.wrap ((qa:Int)*4294967296)=(Q1:Int):=by rw[IntKind.wrap_u64];omega
       obtain⟨Q,hQ⟩:∃ c:Nat,Q1+q=c:=⟨_,rfl⟩
       have c2:IntKind.u64.wrap ((Q1:Int)+(q:Int))=(Q:Int):=by rw[IntKind.wrap_u64];omega
       have HR:Hid (Q=d64q hi lo y∧R / 2^s=d64r hi lo y):=by
        show Q=(hi*18446744073709551616+lo) / y∧R / 2^s=(hi*18446744073709551616+lo)%y
        have e2:=Knuth.two u d1 d0 Y (by omega)
        have el:=HE.out.2
        have eN:u*18446744073709551616+l=u*Knuth.h*Knuth.h+d1*Knuth.h+d0:=Knuth.join u l d1 d0 el
        rw[←eN] at e2
        rw[←hbk.1,←hbk.2,e2.1,e2.2]
        have x1:(u*Knuth.h+d1) / Y=qa:=HD1.out
        have x2:(u*Knuth.h+d1)%Y=v:=Hv.out
        have x3:(v*Knuth.h+d0) / Y=q:=hdq
        have x4:(v*Knuth.h+d0)%Y=R:=HR0'.out
        rw[x1,x2,x3,x4]
        refine⟨?_,rfl⟩
        show Q=qa*4294967296+q
        rw[←hQ,←hQ1]
       clear hQ hQ1 hdq hq0 bQ
       go_wp2_with fail
       exact bodyPost_ret (v:=.tuple #[.int .u64 (Q:Nat),.int .u64 ((R:Int) / 2^s)]) (by simp[results,Tryz.results215]) rfl ⟨by rw[qcf,HR.out.1,HR.out.2],hB⟩
open Go Go.RowKit Sx
theorem qak (neg over:Bool) (v:Nat):qap (.agg ⟨wiL neg over v⟩)=true:=qac neg over v
theorem cMade (neg:Bool) (v:Nat) (h:Hp) (hv:v<Top):qad Tryz.prog 176 [.bool neg,.agg ⟨limL 16 (dg v)⟩] h (.agg ⟨wiL (neg&&decide (v≠0)) false v⟩) [] []:=
 qai (by simp[qab];rfl) (qak _ _ _) (Tryz.call176 _) fun w=>by
  have:=qp5 neg v hv w
  rw[wi_is] at this
  exact this
theorem cOf (n:Int) (h:Hp) (h0 : -9223372036854775808≤n) (h1:n<9223372036854775808):qad Tryz.prog 104 [.int .i64 n] h (.agg ⟨wiL (decide (n<0)) false n.natAbs⟩) [] []:=
 qai rfl (qak _ _ _) (Tryz.call104 _) fun w=>by
  have:=q1v n h0 h1 w
  unfold zi at this
  rw[wi_is] at this
  exact this
theorem qrg {o:Bool} {n m p:Nat} {f:Nat→Nat} (hp:p+m≤n):Reads ⟨o,n,[(0,n,.agg ⟨limL n f⟩)]⟩ p true m (.agg ⟨limL m (fun k=>f (p+k))⟩):=by
 refine⟨hp,_,rfl,qee _ _,fun k hk=>?_⟩
 show qa5 _ _=_
 rw[qao,if_pos (by omega)]
 simp only[cellIn]
 rw[qef hk,show p+k-0=p+k from rfl,qef (by omega)]
theorem qrh {n:Nat} {ps:List (Nat×Nat×Value)} {v:Value}:Writes ⟨true,n,ps⟩ 0 n v ⟨true,n,[(0,n,v)]⟩:=by
 refine⟨rfl,by show 0+n≤n;omega,rfl,fun k hk=>?_⟩
 have hk:k<n:=hk
 show qa5 _ _=_
 rw[qao,if_pos (by omega),if_pos (by omega)]
def mT (v u i:Nat):Nat:=v%Bs^i*u
def mX (v u i j:Nat):Nat:=mT v u i+Bs^i*dg v i*(u%Bs^j)
def mC (v u i j:Nat):Nat:=mX v u i j / Bs^(i+j)-mT v u i / Bs^(i+j)
def mA (v u i j k:Nat):Nat:=if k<i+j then dg (mX v u i j) k else dg (mT v u i) k
theorem qud (v u i:Nat):mX v u i 0=mT v u i:=by simp[mX,Nat.mod_one]
theorem que (v u i:Nat):mC v u i 0=0:=by simp[mC,qud]
theorem q1y (v u i k:Nat):mA v u i 0 k=dg (mT v u i) k:=by unfold mA;rw[qud];split<;>rfl
theorem q1z (v u:Nat):mT v u 0=0:=by simp[mT,Nat.mod_one]
theorem quf (v u i j:Nat):mX v u i (j+1)=mX v u i j+Bs^(i+j)*(dg v i*dg u j):=by
 unfold mX
 rw[qht,Nat.mul_add,←Nat.add_assoc,Nat.pow_add]
 congr 1
 simp only[Nat.mul_assoc,Nat.mul_left_comm]
theorem mX_ge (v u i j:Nat):mT v u i≤mX v u i j:=Nat.le_add_right _ _
theorem q0q (v u i j:Nat):mX v u i j / Bs^(i+j)=mT v u i / Bs^(i+j)+mC v u i j:=by
 unfold mC
 have:=Nat.div_le_div_right (c:=Bs^(i+j)) (mX_ge v u i j)
 omega
theorem qug (v u i j:Nat):mX v u i (j+1) / Bs^(i+j)=mT v u i / Bs^(i+j)+mC v u i j+dg v i*dg u j:=by
 rw[quf,Nat.add_mul_div_left _ _ (qbw _),q0q]
theorem quh (v u i j:Nat):mC v u i (j+1)=(dg v i*dg u j+dg (mT v u i) (i+j)+mC v u i j) / 18446744073709551616:=by
 have h:=qug v u i j
 have hs:=qct (mT v u i) (i+j)
 have h2:mX v u i (j+1) / Bs^(i+(j+1))=mX v u i (j+1) / Bs^(i+j) / Bs:=by
  rw[Nat.div_div_eq_div_mul,show i+(j+1)=(i+j)+1 from rfl,Nat.pow_succ]
 generalize hc:mC v u i j=c at *
 show mX v u i (j+1) / Bs^(i+(j+1))-mT v u i / Bs^(i+(j+1))=_
 rw[h2,h,hs,show i+(j+1)=(i+j)+1 from rfl]
 rw[show mT v u i / Bs^(i+j+1)*Bs+dg (mT v u i) (i+j)+c+dg v i*dg u j=Bs*(mT v u i / Bs^(i+j+1))+(dg v i*dg u j+dg (mT v u i) (i+j)+c) from by rw[Nat.mul_comm];omega]
 rw[Nat.mul_add_div qeu,Nat.add_sub_cancel_left]
theorem q39 (v u i j:Nat):dg (mX v u i (j+1)) (i+j)=(dg v i*dg u j+dg (mT v u i) (i+j)+mC v u i j)%18446744073709551616:=by
 have h:=qug v u i j
 have hs:=qct (mT v u i) (i+j)
 show mX v u i (j+1) / Bs^(i+j)%Bs=_
 rw[h,hs]
 rw[show mT v u i / Bs^(i+j+1)*Bs+dg (mT v u i) (i+j)+mC v u i j+dg v i*dg u j=Bs*(mT v u i / Bs^(i+j+1))+(dg v i*dg u j+dg (mT v u i) (i+j)+mC v u i j) from by rw[Nat.mul_comm];omega]
 rw[Nat.mul_add_mod]
theorem qp8 {a b t c:Nat} (ha:a<18446744073709551616) (hb:b<18446744073709551616) (ht:t<18446744073709551616) (hc:c<18446744073709551616):(a*b+t+c) / 18446744073709551616<18446744073709551616:=by
 have:a*b≤18446744073709551615*18446744073709551615:=Nat.mul_le_mul (by omega) (by omega)
 omega
theorem mC_lt (v u i:Nat):∀ j,mC v u i j<18446744073709551616
 | 0=>by rw[que];decide
 | j+1=>by rw[quh];exact qp8 (dg_lt _ _) (dg_lt _ _) (dg_lt _ _) (mC_lt v u i j)
theorem q4a (x y p k:Nat) (h:k<p):dg (x+Bs^p*y) k=dg x k:=by
 rw[←q0i (x+Bs^p*y) p k h,Nat.add_mul_mod_self_left,q0i x p k h]
theorem q10 (v u i j k:Nat) (h:k≠i+j):mA v u i (j+1) k=mA v u i j k:=by
 unfold mA
 by_cases hk:k<i+j
 ·rw[if_pos hk,if_pos (by omega),quf,q4a _ _ _ _ hk]
 ·rw[if_neg hk,if_neg (by omega)]
theorem mA_at (v u i j:Nat):mA v u i (j+1) (i+j)=(dg v i*dg u j+dg (mT v u i) (i+j)+mC v u i j)%18446744073709551616:=by
 unfold mA;rw[if_pos (by omega),q39]
theorem q4b (v u i j:Nat):mA v u i j (i+j)=dg (mT v u i) (i+j):=by unfold mA;rw[if_neg (by omega)]
theorem q4c (v u i n:Nat) (hu:u<Bs^n):mX v u i n=mT v u (i+1):=by
 unfold mX mT
 rw[Nat.mod_eq_of_lt hu,qht,Nat.add_mul]
theorem mT_lt (v u i n:Nat) (hu:u<Bs^n):mT v u i<Bs^(i+n):=by
 unfold mT
 rw[Nat.pow_add]
 have h1:=Nat.mod_lt v (qbw i)
 exact Nat.mul_lt_mul'' h1 hu
theorem qui (v u i n k:Nat) (hu:u<Bs^n):dg (mT v u (i+1)) k=if k<i+n then mA v u i n k else if k=i+n then mC v u i n else dg (mT v u i) k:=by
 have hx:=q4c v u i n hu
 have h0:mT v u i / Bs^(i+n)=0:=Nat.div_eq_of_lt (mT_lt v u i n hu)
 by_cases h1:k<i+n
 ·rw[if_pos h1];unfold mA;rw[if_pos h1,hx]
 ·rw[if_neg h1]
  by_cases h2:k=i+n
  ·rw[if_pos h2]
   subst h2
   have h3:=q0q v u i n
   rw[h0,Nat.zero_add,hx] at h3
   show mT v u (i+1) / Bs^(i+n)%Bs=_
   rw[h3,Nat.mod_eq_of_lt (mC_lt v u i n)]
  ·rw[if_neg h2]
   have h4:i+n≤k:=by omega
   have h5:Bs^(i+n)≤Bs^k:=Nat.pow_le_pow_right qeu h4
   have h6:Bs^(i+1+n)≤Bs^k:=Nat.pow_le_pow_right qeu (by omega)
   rw[qii _ _ (Nat.lt_of_lt_of_le (mT_lt v u i n hu) h5),qii _ _ (Nat.lt_of_lt_of_le (mT_lt v u (i+1) n hu) h6)]
theorem q11 (v u i n k:Nat) (h:i+n≤k):mA v u i n k=dg (mT v u i) k:=by unfold mA;rw[if_neg (by omega)]
theorem q4d (v u m:Nat) (hv:v<Bs^m):mT v u m=v*u:=by unfold mT;rw[Nat.mod_eq_of_lt hv]
theorem q12 (ab t c:Nat):(((((ab%18446744073709551616:Nat):Int)+(t:Int)+0)%18446744073709551616)+(c:Int)+0)%18446744073709551616=(((ab+t+c)%18446744073709551616:Nat):Int):=by omega
theorem qxq (ab t c:Nat) (h:(ab+t+c) / 18446744073709551616<18446744073709551616):IntKind.u64.wrap (IntKind.u64.wrap (((ab / 18446744073709551616:Nat):Int)+(((ab%18446744073709551616:Nat):Int)+(t:Int)+0) / 18446744073709551616)+((((ab%18446744073709551616:Nat):Int)+(t:Int)+0)%18446744073709551616+(c:Int)+0) / 18446744073709551616)=(((ab+t+c) / 18446744073709551616:Nat):Int):=by
 rw[IntKind.wrap_u64,IntKind.wrap_u64];omega
theorem q13 {a b:Int} (h:a=b):Value.int .u64 a=.int .u64 b:=by rw[h]
theorem qg4 {a b:Int} (h:a=b):Value.int .i64 a=.int .i64 b:=by rw[h]
theorem mul_x (n1 n2:Bool) (v u:Nat) (hv:v<Bs^16) (hu:u<Bs^16) (hvu:v*u<Top) (w:World) :
  Calls Tryz.prog 130 #[.agg ⟨wiL n1 false v⟩,.agg ⟨wiL n2 false u⟩] w fun e w'=>e=.returned (.agg ⟨wiL ((n1 != n2)&&decide (v*u≠0)) false (v*u)⟩)∧Below w.heap.size w w':=by
 have hn1:=nd_le v
 have hn2:=nd_le u
 have hvm:v<Bs^nd v:=qin v 16 hv
 have hun:u<Bs^nd u:=qin u 16 hu
 refine qaf (G:=tys) w tysOK mixed Tryz.func130 (by rfl) (by simp[qac]) (by exact qac _ _ _) ?_
 repeat (refine N.go ?_;first|with_reducible (first|refine N.obl (qa6 _ _ _) ?_|refine N.obl (qby _ _) ?_|refine N.eq ?_|refine N.obl rfl ?_|refine N.obl ⟨by kernel_rfl,by kernel_rfl⟩ ?_|refine N.alt ?_|refine N.forkT ?_|refine N.forkF ?_)|refine N.call (q33 _ _ _ _ (qce (by rfl))) ?_)
 refine N.go ?_
 refine N.loop (α:=Nat) (fun i=>i≤nd v) (fun i=>nd v-i) (fun i=>[(29,.int .i64 (i:Int))]) (fun i=>[(3,⟨true,32,[(0,32,.agg ⟨limL 32 (dg (mT v u i))⟩)]⟩)]) 0 (Nat.zero_le _) ?_ ?_
 ·repeat (refine N.go ?_;first|exact N.true|with_reducible (first|refine N.obl rfl ?_|refine N.obl (ChunkLe.refl _) ?_)|refine N.obl (ChunkLe.of (by rw[q1z,qdj (g:=fun _=>0) (fun j _=>qfr j)];rfl)) ?_)
 ·intro i hi
  by_cases hlt:i<nd v
  ·refine N.go ?_
   refine N.forkYes (by simpa using hlt) ?_
   refine N.go ?_
   refine N.loop (α:=Nat) (fun j=>j≤nd u) (fun j=>nd u-j) (fun j=>[(33,.int .i64 (j:Int)),(9,.int .u64 ((mC v u i j:Nat):Int))]) (fun j=>[(3,⟨true,32,[(0,32,.agg ⟨limL 32 (mA v u i j)⟩)]⟩)]) 0 (Nat.zero_le _) ?_ ?_
   ·repeat (refine N.go ?_;first|exact N.true|with_reducible (first|refine N.obl rfl ?_|refine N.obl (ChunkLe.refl _) ?_)|refine N.obl (ChunkLe.of (by rw[qdj (f:=mA v u i 0) (g:=dg (mT v u i)) (fun k _=>q1y v u i k)])) ?_|refine N.obl (by rw[que];rfl) ?_)
   ·intro j hj
    have da:=dg_lt v i
    have db:=dg_lt u j
    have dt:=dg_lt (mT v u i) (i+j)
    have dc:=mC_lt v u i j
    by_cases hlt2:j<nd u
    ·have hab:dg v i*dg u j≤18446744073709551615*18446744073709551615:=Nat.mul_le_mul (by omega) (by omega)
     refine N.go ?_
     refine N.forkYes (by simpa using hlt2) ?_
     refine N.go ?_
     refine N.alt ?_
     refine N.go ?_
     refine N.idx i 1 rfl (by omega) ?_
     refine N.go ?_
     refine N.load _ (qk2 (p:=i) (by omega) rfl) ?_
     refine N.go ?_
     refine N.idx j 1 rfl (by omega) ?_
     refine N.go ?_
     refine N.load _ (qk2 (p:=j) (by omega) rfl) ?_
     refine N.go ?_
     refine N.call (q34 (dg v i) (dg u j) _ da db) ?_
     refine N.go ?_
     refine N.obl ⟨by kernel_rfl,by kernel_rfl⟩ ?_
     refine N.go ?_
     refine N.idx (i+j) 1 (by rw[IntWalk.i64_in _ (by omega)];omega) (by omega) ?_
     refine N.go ?_
     refine N.load _ (qd8 (p:=i+j) (by omega) rfl) ?_
     rw[q4b]
     refine N.go ?_
     refine N.call (q0l _ _ _ _ (by omega) (by omega) (by omega) (by omega) (by omega) (by omega)) ?_
     refine N.go ?_
     refine N.call (q0l _ _ _ _ (by omega) (by omega) (by omega) (by omega) (by omega) (by omega)) ?_
     refine N.go ?_
     refine N.idx (i+j) 1 (by rw[IntWalk.i64_in _ (by omega)];omega) (by omega) ?_
     refine N.go ?_
     refine N.store ⟨true,32,[(0,32,.agg ⟨limL 32 (mA v u i (j+1))⟩)]⟩ (qc6 (p:=i+j) (by omega) rfl (by rw[mA_at];exact q12 _ _ _) (fun k _ hk=>q10 v u i j k hk)) ?_
     refine N.go ?_
     refine N.next (j+1) ⟨by omega,by omega⟩ ?_
     repeat (refine N.go ?_;first|exact N.true|with_reducible (first|refine N.obl rfl ?_|refine N.obl (ChunkLe.refl _) ?_)|refine N.obl (qg4 (by rw[IntWalk.i64_in _ (by omega)];rfl)) ?_|refine N.obl (q13 (by rw[quh];exact qxq _ _ _ (qp8 da db dt dc))) ?_)
    ·refine N.go ?_
     refine N.forkNo (by simpa using hlt2) ?_
     obtain rfl:j=nd u:=by omega
     refine N.go ?_
     refine N.idx (i+nd u) 1 (by rw[IntWalk.i64_in _ (by omega)];omega) (by omega) ?_
     refine N.go ?_
     refine N.store ⟨true,32,[(0,32,.agg ⟨limL 32 (dg (mT v u (i+1)))⟩)]⟩ (qc6 (p:=i+nd u) (by omega) rfl (by rw[qui v u i (nd u) _ hun,if_neg (by omega),if_pos rfl]) (fun k _ hk=>by
      rw[qui v u i (nd u) k hun]
      by_cases h:k<i+nd u
      ·rw[if_pos h]
      ·rw[if_neg h,if_neg hk,q11 _ _ _ _ _ (by omega)])) ?_
     refine N.go ?_
     refine N.next (i+1) ⟨by omega,by omega⟩ ?_
     repeat (refine N.go ?_;first|exact N.true|with_reducible (first|refine N.obl rfl ?_|refine N.obl (ChunkLe.refl _) ?_)|refine N.obl (qg4 (by rw[IntWalk.i64_in _ (by omega)];rfl)) ?_)
  ·have hm:i=nd v:=by omega
   subst hm
   refine N.go ?_
   refine N.forkNo (by simp) ?_
   refine N.go ?_
   rw[q4d v u _ hvm]
   refine N.mk ⟨0,16,0,rfl,rfl,?_⟩
   refine N.go ?_
   refine N.mk ⟨0,16,0,⟨rfl,by decide⟩,rfl,?_⟩
   refine N.go ?_
   refine N.mk ⟨16,.agg ⟨limL 16 (dg (v*u))⟩,⟨true,16,[(0,16,.agg ⟨limL 16 (dg (v*u))⟩)]⟩,rfl,?_,qby _ _,qrh,?_⟩
   ·have:=qrg (o:=true) (n:=32) (m:=16) (p:=0) (f:=dg (v*u)) (by omega)
    simp only[Nat.zero_add] at this
    exact this
   refine N.go ?_
   refine N.obl ⟨by kernel_rfl,by kernel_rfl⟩ ?_
   refine N.go ?_
   refine N.mk ⟨16,32,1,rfl,⟨rfl,by decide⟩,?_⟩
   refine N.go ?_
   refine N.loop (α:=Nat) (fun j=>j≤16) (fun j=>16-j) (fun j=>[(86,.int .i64 (j:Int))]) (fun _=>[]) 0 (by omega) ?_ ?_
   ·repeat (refine N.go ?_;first|exact N.true|with_reducible refine N.obl rfl ?_|with_reducible refine N.obl (ChunkLe.refl _) ?_ )
   ·intro j hj
    by_cases hlt3:j<16
    ·refine N.go ?_
     refine N.forkYes (by simp;omega) ?_
     refine N.go ?_
     refine N.idx j 1 rfl hlt3 ?_
     refine N.go ?_
     refine N.load _ (qd8 (p:=16+j) (by omega) rfl) ?_
     refine N.go ?_
     have hz:dg (v*u) (16+j)=0:=qii _ _ (Nat.lt_of_lt_of_le (Nat.lt_trans hvu qbd) (Nat.pow_le_pow_right qeu (by omega)))
     rw[hz]
     refine N.forkNo rfl ?_
     refine N.go ?_
     refine N.next (j+1) ⟨by omega,by omega⟩ ?_
     repeat (refine N.go ?_;first|exact N.true|with_reducible (first|refine N.obl rfl ?_|refine N.obl (ChunkLe.refl _) ?_)|refine N.obl (qg4 (by rw[IntWalk.i64_in _ (by omega)];rfl)) ?_)
    ·refine N.go ?_
     refine N.forkNo (by simp;omega) ?_
     repeat (refine N.go ?_;first|with_reducible (first|refine N.obl (qa6 _ _ _) ?_|refine N.obl (qby _ _) ?_|refine N.eq ?_|refine N.obl rfl ?_|refine N.obl ⟨by kernel_rfl,by kernel_rfl⟩ ?_|refine N.alt ?_|refine N.forkT ?_|refine N.forkF ?_)|refine N.call (cMade _ _ _ hvu) ?_)
     rfl
open Go Go.RowKit Sx
abbrev wz (z:Int):Value:=.agg ⟨wiL (decide (z<0)) false z.natAbs⟩
theorem qaa (z:Int):qam (wz z)=true:=qac _ _ _
theorem qag (z:Int):qap (wz z)=true:=qac _ _ _
theorem qxr (a b:Int):((decide (a<0) != decide (b<0))&&decide (a.natAbs*b.natAbs≠0))=decide (a*b<0):=by
 by_cases h0:a=0
 ·subst h0;simp
 by_cases h1:b=0
 ·subst h1;simp
 have hne:a.natAbs*b.natAbs≠0:=Nat.mul_ne_zero (by omega) (by omega)
 rw[decide_eq_true hne,Bool.and_true]
 rcases Int.lt_or_gt_of_ne h0 with ha|ha<;>rcases Int.lt_or_gt_of_ne h1 with hb|hb
 ·have:=Int.mul_pos_of_neg_of_neg ha hb
  rw[decide_eq_true ha,decide_eq_true hb,decide_eq_false (by omega)];rfl
 ·have:=Int.mul_neg_of_neg_of_pos ha hb
  rw[decide_eq_true ha,decide_eq_false (by omega:¬ b<0),decide_eq_true this];rfl
 ·have:=Int.mul_neg_of_pos_of_neg ha hb
  rw[decide_eq_false (by omega:¬ a<0),decide_eq_true hb,decide_eq_true this];rfl
 ·have:=Int.mul_pos ha hb
  rw[decide_eq_false (by omega:¬ a<0),decide_eq_false (by omega:¬ b<0),decide_eq_false (by omega)];rfl
theorem cMulz (a b:Int) (h:Hp) (ha:a.natAbs<Bs^16) (hb:b.natAbs<Bs^16) (hab:(a*b).natAbs<Top):qad Tryz.prog 130 [wz a,wz b] h (wz (a*b)) [] []:=
 qai (by simp[qaa]) (qag _) (Tryz.call130 _) fun w=>by
  have:=mul_x (decide (a<0)) (decide (b<0)) a.natAbs b.natAbs ha hb (by rwa[←Int.natAbs_mul]) w
  rw[qxr,←Int.natAbs_mul] at this
  exact this
theorem cOfz (n:Int) (h:Hp) (h0 : -9223372036854775808≤n) (h1:n<9223372036854775808):qad Tryz.prog 104 [.int .i64 n] h (wz n) [] []:=cOf n h h0 h1
theorem qn5 (a b:Nat) (h:Hp) (ha:a<Bs^16) (hb0:0<b) (hb:b<18446744073709551616):qad Tryz.prog 182 [.agg ⟨limL 16 (dg a)⟩,.agg ⟨limL 16 (dg b)⟩] h (.tuple #[.agg ⟨limL 16 (dg (a / b))⟩,.agg ⟨limL 16 (dg (a%b))⟩]) [] []:=
 qai (by simp[qab]) (by simp[qap,qab]) (Tryz.call182 _) fun w=>qjw a b ha hb0 hb (fun i w hi=>by
  have hs:=qxi a b i hb0
  have hr:rm a b (i+1)<b:=Nat.mod_lt _ hb0
  have hd:=dg_lt a i
  have e1:rm a b (i+1)*18446744073709551616+dg a i=a / Bs^(i+1)%b*18446744073709551616+dg a i:=rfl
  rcases Nat.eq_zero_or_pos (rm a b (i+1)) with h0|h0
  ·have:=qp7 (dg a i) b hd hb0 hb w
   rw[h0,Nat.zero_mul,Nat.zero_add] at e1
   rw[←e1] at hs
   rw[hs.1,hs.2] at this
   rw[h0]
   exact this
  ·have:=qxp (rm a b (i+1)) (dg a i) b h0 hr hd hb w
   unfold d64q d64r at this
   rw[e1,hs.1,hs.2] at this
   exact this) w
theorem qd1 {h:Hp} {i v:Nat} {o:Bool} (hi:h[i]?=some (some ⟨o,16,[(0,16,.agg ⟨limL 16 (dg v)⟩)]⟩)):Has h i 0 v:=
 ⟨_,hi,nlr _,fun j hj=>by
  show qa5 _ _=_
  rw[qao,if_pos (by omega)]
  simp only[cellIn]
  rw[show 0+j-0=j from by omega]
  exact qef hj⟩
theorem qxs:limL 16 (dg 1)=[.int .u64 1,.int .u64 0,.int .u64 0,.int .u64 0,.int .u64 0,.int .u64 0,.int .u64 0,.int .u64 0,.int .u64 0,.int .u64 0,.int .u64 0,.int .u64 0,.int .u64 0,.int .u64 0,.int .u64 0,.int .u64 0]:=by
 rw[qdj (g:=fun j=>if j=0 then 1 else 0) (fun j _=>qc1 1 (by decide) j)];rfl
theorem quj {h:Hp} {i:Nat} {o:Bool} (hi:h[i]?=some (some ⟨o,16,[(0,16,.agg ⟨[.int .u64 1,.int .u64 0,.int .u64 0,.int .u64 0,.int .u64 0,.int .u64 0,.int .u64 0,.int .u64 0,.int .u64 0,.int .u64 0,.int .u64 0,.int .u64 0,.int .u64 0,.int .u64 0,.int .u64 0,.int .u64 0]⟩)]⟩)):Has h i 0 1:=by
 rw[←qxs] at hi;exact qd1 hi
theorem cAdd (i f v j g u:Nat) (h:Hp) (h1:Has h i f v) (h2:Has h j g u):qad Tryz.prog 183 [.pointer (some ⟨i,f,some 0⟩),.pointer (some ⟨j,g,some 0⟩)] h (.tuple #[.agg ⟨limL 16 (dg (v+u))⟩,.int .u64 (cry v u 16)]) [] [i,j]:=
 qev [i,j] (by simp[qap,qab];rfl) (Tryz.call183) fun ρ w hc=>qt3 (ρ i).1 ((ρ i).2+f) v (ρ j).1 ((ρ j).2+g) u w (h1.digs (by simp) hc) (h2.digs (by simp) hc)
theorem cBits (i f v:Nat) (h:Hp) (h1:Has h i f v):qad Tryz.prog 212 [.pointer (some ⟨i,f,some 0⟩)] h (.int .i64 (bl v)) [] [i]:=
 qev [i] rfl (Tryz.call212) fun ρ w hc=>(qhu (ρ i).1 ((ρ i).2+f) v w (h1.digs (by simp) hc)).mono (by rintro e w' ⟨he,rfl⟩;exact⟨he,Below.refl _ _⟩)
theorem qri:Tryz.prog.eqGuardType Tryz.prog.depth 134=false:=by kernel_rfl
theorem qgi (op:BinOp) (x y:Operand) (u:Nat) (hu:u<Bs^16) (neg:Bool) (hop:op=if neg then .neq else .eql):BinIs Tryz.prog op 134 x y (.agg ⟨limL 16 (dg u)⟩) (.agg #[.int .u64 0,.int .u64 0,.int .u64 0,.int .u64 0,.int .u64 0,.int .u64 0,.int .u64 0,.int .u64 0,.int .u64 0,.int .u64 0,.int .u64 0,.int .u64 0,.int .u64 0,.int .u64 0,.int .u64 0,.int .u64 0]) (.bool (if neg then !decide (u=0) else decide (u=0))):=by
 have he:=qre u hu
 refine⟨qab _ _,rfl,by cases neg<;>rfl,fun w=>?_⟩
 have hg:∀ op,(eqGuard op 134 x y (.agg ⟨limL 16 (dg u)⟩) (.agg #[.int .u64 0,.int .u64 0,.int .u64 0,.int .u64 0,.int .u64 0,.int .u64 0,.int .u64 0,.int .u64 0,.int .u64 0,.int .u64 0,.int .u64 0,.int .u64 0,.int .u64 0,.int .u64 0,.int .u64 0,.int .u64 0])).run Tryz.prog w=.ok () w:=fun op=>by
  cases op<;>simp[eqGuard,Sem.run_bind,run_program,qri]
 subst hop
 cases neg
 ·simp only[Sem.run_bind,hg,Result.andThen_ok,if_false,Bool.false_eq_true]
  show(do pure (.bool (←Op.equal 134 (.agg ⟨limL 16 (dg u)⟩) (.agg #[.int .u64 0,.int .u64 0,.int .u64 0,.int .u64 0,.int .u64 0,.int .u64 0,.int .u64 0,.int .u64 0,.int .u64 0,.int .u64 0,.int .u64 0,.int .u64 0,.int .u64 0,.int .u64 0,.int .u64 0,.int .u64 0]))):Sem Value).run Tryz.prog w=_
  simp only[Sem.run_bind]
  rw[show(Op.equal 134 (.agg ⟨limL 16 (dg u)⟩) (.agg #[.int .u64 0,.int .u64 0,.int .u64 0,.int .u64 0,.int .u64 0,.int .u64 0,.int .u64 0,.int .u64 0,.int .u64 0,.int .u64 0,.int .u64 0,.int .u64 0,.int .u64 0,.int .u64 0,.int .u64 0,.int .u64 0])).run Tryz.prog w=.ok (decide (u=0)) w from he w]
  rfl
 ·simp only[Sem.run_bind,hg,Result.andThen_ok,if_true]
  show(do pure (.bool (!(←Op.equal 134 (.agg ⟨limL 16 (dg u)⟩) (.agg #[.int .u64 0,.int .u64 0,.int .u64 0,.int .u64 0,.int .u64 0,.int .u64 0,.int .u64 0,.int .u64 0,.int .u64 0,.int .u64 0,.int .u64 0,.int .u64 0,.int .u64 0,.int .u64 0,.int .u64 0,.int .u64 0])))):Sem Value).run Tryz.prog w=_
  simp only[Sem.run_bind]
  rw[show(Op.equal 134 (.agg ⟨limL 16 (dg u)⟩) (.agg #[.int .u64 0,.int .u64 0,.int .u64 0,.int .u64 0,.int .u64 0,.int .u64 0,.int .u64 0,.int .u64 0,.int .u64 0,.int .u64 0,.int .u64 0,.int .u64 0,.int .u64 0,.int .u64 0,.int .u64 0,.int .u64 0])).run Tryz.prog w=.ok (decide (u=0)) w from he w]
  rfl
theorem bs16 {n:Nat} (h:n<18446744073709551616):n<Bs^16:=Nat.lt_of_lt_of_le h (Nat.le_self_pow (by decide) Bs)
theorem neg_x (z:Int) (hz:z.natAbs<Top) (w:World):Calls Tryz.prog 171 #[wz z] w fun e w'=>e=.returned (wz (-z))∧Below w.heap.size w w':=by
 refine qaf (G:=tys) w tysOK mixed Tryz.func171 (by rfl) (by first|rfl|(simp only[List.all_cons,List.all_nil,qaa,qab,qac];rfl)) (by first|exact qag _|exact qak _ _ _|rfl|(simp only[qap,List.all_cons,List.all_nil,qaa,qab,qac];rfl)) ?_
 repeat' (refine N.go ?_;first|with_reducible (first|refine N.obl (qa6 _ _ _) ?_|refine N.obl (qby _ _) ?_|refine N.eq ?_|refine N.forkF ?_|refine N.call (cMade _ _ _ hz) ?_)|fail)
 all_goals
  simp only[wz,Value.agg.injEq,Array.mk.injEq,Int.natAbs_neg]
  congr 1
  by_cases h:z<0
  ·rw[decide_eq_true h,decide_eq_false (by omega:¬ -z<0)];rfl
  ·by_cases h0:z=0
   ·subst h0;rfl
   ·rw[decide_eq_false h,decide_eq_true (by omega : -z<0),decide_eq_true (by omega:z.natAbs≠0)];rfl
theorem cNeg (z:Int) (h:Hp) (hz:z.natAbs<Top):qad Tryz.prog 171 [wz z] h (wz (-z)) [] []:=
 qai (by simp[qaa]) (qag _) (Tryz.call171 _) (neg_x z hz)
open Go Go.RowKit Sx
theorem qn6 (n o:Bool) (v:Nat):(wiL n o v).length=18:=by simp[wiL,qee]
theorem wi_re {ix:List (Nat×Nat)} {w:Bool} {m:Nat} (n o:Bool) (v:Nat):((⟨false,18,[(0,18,.agg ⟨wiL n o v⟩)]⟩:Chunk).own=true→(⟨w,18,[(0,18,.agg ⟨wiL n o v⟩)]⟩:Chunk).own=true∧m≤(⟨w,18,[(0,18,.agg ⟨wiL n o v⟩)]⟩:Chunk).n)∧(⟨false,18,[(0,18,.agg ⟨wiL n o v⟩)]⟩:Chunk).n≤(⟨w,18,[(0,18,.agg ⟨wiL n o v⟩)]⟩:Chunk).n∧qb2 ix ⟨w,18,[(0,18,.agg ⟨wiL n o v⟩)]⟩ ⟨false,18,[(0,18,.agg ⟨wiL n o v⟩)]⟩:=
 qz5 (qaw (qn6 _ _ _) (qac _ _ _))
theorem q4e {ix:List (Nat×Nat)} {w:Bool} {m:Nat} (f:Nat→Nat):((⟨false,16,[(0,16,.agg ⟨limL 16 f⟩)]⟩:Chunk).own=true→(⟨w,16,[(0,16,.agg ⟨limL 16 f⟩)]⟩:Chunk).own=true∧m≤(⟨w,16,[(0,16,.agg ⟨limL 16 f⟩)]⟩:Chunk).n)∧(⟨false,16,[(0,16,.agg ⟨limL 16 f⟩)]⟩:Chunk).n≤(⟨w,16,[(0,16,.agg ⟨limL 16 f⟩)]⟩:Chunk).n∧qb2 ix ⟨w,16,[(0,16,.agg ⟨limL 16 f⟩)]⟩ ⟨false,16,[(0,16,.agg ⟨limL 16 f⟩)]⟩:=
 qz5 (qaw (qee _ _) (qab _ _))
theorem sub64 (x y b:Nat) (hb:b≤1) (w:World):(callFunc 230 #[.int .u64 x,.int .u64 y,.int .u64 b]).run Tryz.prog w =
  .ok (.value (.tuple #[.int .u64 (((x+18446744073709551616-y-b)%18446744073709551616:Nat):Int),.int .u64 ((if x<y+b then 1 else 0:Nat):Int)])) w:=by
 rw[run_callFunc_extern Tryz.func230 (by kernel_rfl) (by kernel_rfl) (by kernel_rfl) (e:=Proofs.sub64Entry) (by kernel_rfl),Proofs.run_sub64 x y b hb]
 rfl
theorem q4f (x y b p q:Nat) (h:Hp) (hb:b≤1) (hp:(x+18446744073709551616-y-b)%18446744073709551616=p) (hq:(if x<y+b then 1 else 0)=q):qad Tryz.prog 230 [.int .u64 x,.int .u64 y,.int .u64 b] h (.tuple #[.int .u64 p,.int .u64 q]) [] []:=by
 subst hp;subst hq
 exact qpn rfl rfl fun w=>sub64 x y b hb w
def subTo (d i:Nat):Nat→Nat:=fun j=>if j<i then dg d j else 0
theorem qrj (d:Nat):limL 16 (subTo d 0)=limL 16 (fun _=>0):=qdj fun j _=>by simp[subTo]
theorem quk (d:Nat):limL 16 (subTo d 16)=limL 16 (dg d):=qdj fun j hj=>by unfold subTo;rw[if_pos hj]
theorem cSubS (i j v u:Nat) (n1 o1 n2 o2 w1 w2:Bool) (h:Hp) (hi:h[i]?=some (some ⟨w1,18,[(0,18,.agg ⟨wiL n1 o1 v⟩)]⟩)) (hj:h[j]?=some (some ⟨w2,18,[(0,18,.agg ⟨wiL n2 o2 u⟩)]⟩)) (huv:u≤v) :
  qad Tryz.prog 211 [.pointer (some ⟨i,2,some 0⟩),.pointer (some ⟨j,2,some 0⟩)] h (.agg ⟨limL 16 (dg (v-u))⟩) [] [i,j]:=by
 obtain⟨d,rfl⟩:∃ d,v=u+d:=⟨v-u,by omega⟩
 rw[Nat.add_sub_cancel_left]
 refine qar (G:=tys) [⟨i,_,⟨false,18,[(0,18,.agg ⟨wiL n1 o1 (u+d)⟩)]⟩,⟨false,0,[]⟩⟩,⟨j,_,⟨false,18,[(0,18,.agg ⟨wiL n2 o2 u⟩)]⟩,⟨false,0,[]⟩⟩] [] [.pointer (some ⟨0,2,some 0⟩),.pointer (some ⟨1,2,some 0⟩)] tysOK mixed Tryz.func211 (by rfl) (Tryz.call211) ⟨hi,hj,trivial⟩ ⟨wi_re _ _ _,wi_re _ _ _,trivial⟩ (by simp[Apart]) trivial ⟨.ptr rfl,.ptr rfl,trivial⟩ ?_
 skip
 refine N.go ?_
 refine N.loop (α:=Nat) (fun i=>i≤16) (fun i=>16-i) (fun i=>[(8,.int .i64 (i:Int)),(6,.int .u64 ((cry u d i:Nat):Int))]) (fun i=>[(3,⟨true,16,[(0,16,.agg ⟨limL 16 (subTo d i)⟩)]⟩)]) 0 (Nat.zero_le _) ?_ ?_
 ·repeat (refine N.go ?_;first|exact N.true|with_reducible (first|refine N.obl rfl ?_|refine N.obl (ChunkLe.refl _) ?_)|refine N.obl (ChunkLe.of (by rw[qrj];rfl)) ?_|refine N.obl (by rw[qp1];rfl) ?_)
 ·intro i hi
  by_cases hlt:i<16
  ·have c1:dg u i+dg d i+cry u d i=dg (u+d) i+18446744073709551616*cry u d (i+1):=qk0 u d i
   have c2:=qt0 u d i
   have c3:=qt0 u d (i+1)
   have c4:=dg_lt u i
   have c5:=dg_lt d i
   have c6:=dg_lt (u+d) i
   have hp:(dg (u+d) i+18446744073709551616-dg u i-cry u d i)%18446744073709551616=dg d i:=by omega
   have hq:(if dg (u+d) i<dg u i+cry u d i then 1 else 0)=cry u d (i+1):=by split<;>omega
   repeat' (refine N.go ?_;first|with_reducible (first|refine N.obl ⟨by kernel_rfl,by kernel_rfl⟩ ?_|refine N.alt ?_)|refine N.forkYes (by rw[decide_eq_true_eq];omega) ?_|refine N.idx i 1 rfl hlt ?_|refine N.load _ (qk2 (p:=i) hlt rfl) ?_|refine N.call (q4f _ _ _ _ _ _ c2 hp hq) ?_|refine N.store ⟨true,16,[(0,16,.agg ⟨limL 16 (subTo d (i+1))⟩)]⟩ (qc6 (p:=i) hlt (by first|rfl|omega) (by unfold subTo;rw[if_pos (by omega)]) (fun k _ hk=>by unfold subTo;by_cases h:k<i<;>simp[h]<;>omega)) ?_|fail)
   refine N.go ?_
   refine N.next (i+1) ⟨by omega,by omega⟩ ?_
   repeat (refine N.go ?_;first|exact N.true|with_reducible (first|refine N.obl rfl ?_|refine N.obl (ChunkLe.refl _) ?_)|refine N.obl (qg4 (by rw[IntWalk.i64_in _ (by omega)];rfl)) ?_)
  ·obtain rfl:i=16:=by omega
   refine N.go ?_
   refine N.forkNo (by decide) ?_
   rw[quk]
   repeat' (refine N.go ?_;first|with_reducible refine N.obl (qby _ _) ?_|exact N.true|refine N.obl trivial ?_|refine N.obl (.plain (qab _ _)) ?_|fail)
theorem cCmpS (i f v j g u:Nat) (h:Hp) (h1:Has h i f v) (h2:Has h j g u) (hv:v<Bs^16) (hu:u<Bs^16):qad Tryz.prog 210 [.pointer (some ⟨i,f,some 0⟩),.pointer (some ⟨j,g,some 0⟩)] h (.int .i64 (cm v u)) [] [i,j]:=
 qev [i,j] rfl (Tryz.call210) fun ρ w hc=>(qn2 (ρ i).1 ((ρ i).2+f) v (ρ j).1 ((ρ j).2+g) u w (h1.digs (by simp) hc) (h2.digs (by simp) hc) hv hu).mono (by rintro e w' ⟨he,hb,_⟩;exact⟨he,hb⟩)
theorem qul (v u:Nat) (h:v+u<Bs^16):cry v u 16=0:=by
 unfold cry
 have h1:v%Bs^16≤v:=Nat.mod_le _ _
 have h2:u%Bs^16≤u:=Nat.mod_le _ _
 exact Nat.div_eq_of_lt (by omega)
theorem qhm (v u:Nat) (hv:v<Top) (hu:u<Top) (hs:v+u<Top) (w:World):Calls Tryz.prog 170 #[.agg ⟨wiL false false v⟩,.agg ⟨wiL false false u⟩] w fun e w'=>e=.returned (.agg ⟨wiL (false&&decide (v+u≠0)) false (v+u)⟩)∧Below w.heap.size w w':=by
 have hv16:=Nat.lt_trans hv qbd
 have hu16:=Nat.lt_trans hu qbd
 refine qaf (G:=tys) w tysOK mixed Tryz.func170 (by rfl) (by first|rfl|(simp only[List.all_cons,List.all_nil,qaa,qab,qac];rfl)) (by first|exact qag _|exact qak _ _ _|rfl|(simp only[qap,List.all_cons,List.all_nil,qaa,qab,qac];rfl)) ?_
 repeat' (refine N.go ?_;first|with_reducible (first|refine N.obl (qa6 _ _ _) ?_|refine N.obl (qby _ _) ?_|refine N.eq ?_|refine N.forkF ?_)|refine N.call (cAdd _ _ _ _ _ _ _ (qce (by rfl)) (qce (by rfl))) ?_|refine N.forkNo (by rw[qul _ _ (Nat.lt_trans hs qbd)];decide) ?_|with_reducible refine N.call (cMade _ _ _ hs) ?_|refine N.forkYes (by decide) ?_|fail)
 all_goals rfl
theorem qjf (v u:Nat) (hv:v<Top) (hu:u<Top) (hs:u≤v) (w:World):Calls Tryz.prog 170 #[.agg ⟨wiL false false v⟩,.agg ⟨wiL true false u⟩] w fun e w'=>e=.returned (.agg ⟨wiL (false&&decide (v-u≠0)) false (v-u)⟩)∧Below w.heap.size w w':=by
 have hv16:=Nat.lt_trans hv qbd
 have hu16:=Nat.lt_trans hu qbd
 refine qaf (G:=tys) w tysOK mixed Tryz.func170 (by rfl) (by first|rfl|(simp only[List.all_cons,List.all_nil,qaa,qab,qac];rfl)) (by first|exact qag _|exact qak _ _ _|rfl|(simp only[qap,List.all_cons,List.all_nil,qaa,qab,qac];rfl)) ?_
 repeat' (refine N.go ?_;first|with_reducible (first|refine N.obl (qa6 _ _ _) ?_|refine N.eq ?_|refine N.obl ⟨by kernel_rfl,by kernel_rfl⟩ ?_|refine N.alt ?_|refine N.forkF ?_)|refine N.call (cCmpS _ _ _ _ _ _ _ (qce (by rfl)) (qce (by rfl)) hv16 hu16) ?_|refine N.call (cSubS _ _ _ _ _ _ _ _ _ _ _ (by rfl) (by rfl) (by omega)) ?_|refine N.forkYes (by rw[decide_eq_true_eq];unfold cm;split<;>(try split)<;>omega) ?_|with_reducible refine N.call (cMade _ _ _ (Nat.lt_of_le_of_lt (Nat.sub_le _ _) hv)) ?_|refine N.forkNo (by decide) ?_|fail)
 all_goals rfl
theorem qjg (v u:Nat) (hv:v<Top) (hu:u<Top) (hs:v<u) (w:World):Calls Tryz.prog 170 #[.agg ⟨wiL false false v⟩,.agg ⟨wiL true false u⟩] w fun e w'=>e=.returned (.agg ⟨wiL (true&&decide (u-v≠0)) false (u-v)⟩)∧Below w.heap.size w w':=by
 have hv16:=Nat.lt_trans hv qbd
 have hu16:=Nat.lt_trans hu qbd
 refine qaf (G:=tys) w tysOK mixed Tryz.func170 (by rfl) (by first|rfl|(simp only[List.all_cons,List.all_nil,qaa,qab,qac];rfl)) (by first|exact qag _|exact qak _ _ _|rfl|(simp only[qap,List.all_cons,List.all_nil,qaa,qab,qac];rfl)) ?_
 repeat' (refine N.go ?_;first|with_reducible (first|refine N.obl (qa6 _ _ _) ?_|refine N.eq ?_|refine N.obl ⟨by kernel_rfl,by kernel_rfl⟩ ?_|refine N.alt ?_|refine N.forkF ?_)|refine N.call (cCmpS _ _ _ _ _ _ _ (qce (by rfl)) (qce (by rfl)) hv16 hu16) ?_|refine N.call (cSubS _ _ _ _ _ _ _ _ _ _ _ (by rfl) (by rfl) (by omega)) ?_|refine N.forkNo (by rw[decide_eq_false_iff_not];unfold cm;split<;>(try split)<;>omega) ?_|with_reducible refine N.call (cMade _ _ _ (Nat.lt_of_le_of_lt (Nat.sub_le _ _) hu)) ?_|refine N.forkNo (by decide) ?_|fail)
 all_goals rfl
theorem qip (v u:Nat) (hv:v<Top) (hu:u<Top) (hs:v+u<Top) (w:World):Calls Tryz.prog 170 #[.agg ⟨wiL true false v⟩,.agg ⟨wiL true false u⟩] w fun e w'=>e=.returned (.agg ⟨wiL (true&&decide (v+u≠0)) false (v+u)⟩)∧Below w.heap.size w w':=by
 have hv16:=Nat.lt_trans hv qbd
 have hu16:=Nat.lt_trans hu qbd
 refine qaf (G:=tys) w tysOK mixed Tryz.func170 (by rfl) (by first|rfl|(simp only[List.all_cons,List.all_nil,qaa,qab,qac];rfl)) (by first|exact qag _|exact qak _ _ _|rfl|(simp only[qap,List.all_cons,List.all_nil,qaa,qab,qac];rfl)) ?_
 repeat' (refine N.go ?_;first|with_reducible (first|refine N.obl (qa6 _ _ _) ?_|refine N.obl (qby _ _) ?_|refine N.eq ?_|refine N.forkF ?_)|refine N.call (cAdd _ _ _ _ _ _ _ (qce (by rfl)) (qce (by rfl))) ?_|refine N.forkNo (by rw[qul _ _ (Nat.lt_trans hs qbd)];decide) ?_|with_reducible refine N.call (cMade _ _ _ hs) ?_|refine N.forkYes (by decide) ?_|fail)
 all_goals rfl
theorem qk3 (v u:Nat) (hv:v<Top) (hu:u<Top) (hs:u≤v) (w:World):Calls Tryz.prog 170 #[.agg ⟨wiL true false v⟩,.agg ⟨wiL false false u⟩] w fun e w'=>e=.returned (.agg ⟨wiL (true&&decide (v-u≠0)) false (v-u)⟩)∧Below w.heap.size w w':=by
 have hv16:=Nat.lt_trans hv qbd
 have hu16:=Nat.lt_trans hu qbd
 refine qaf (G:=tys) w tysOK mixed Tryz.func170 (by rfl) (by first|rfl|(simp only[List.all_cons,List.all_nil,qaa,qab,qac];rfl)) (by first|exact qag _|exact qak _ _ _|rfl|(simp only[qap,List.all_cons,List.all_nil,qaa,qab,qac];rfl)) ?_
 repeat' (refine N.go ?_;first|with_reducible (first|refine N.obl (qa6 _ _ _) ?_|refine N.eq ?_|refine N.obl ⟨by kernel_rfl,by kernel_rfl⟩ ?_|refine N.alt ?_|refine N.forkF ?_)|refine N.call (cCmpS _ _ _ _ _ _ _ (qce (by rfl)) (qce (by rfl)) hv16 hu16) ?_|refine N.call (cSubS _ _ _ _ _ _ _ _ _ _ _ (by rfl) (by rfl) (by omega)) ?_|refine N.forkYes (by rw[decide_eq_true_eq];unfold cm;split<;>(try split)<;>omega) ?_|with_reducible refine N.call (cMade _ _ _ (Nat.lt_of_le_of_lt (Nat.sub_le _ _) hv)) ?_|refine N.forkNo (by decide) ?_|fail)
 all_goals rfl
theorem qk4 (v u:Nat) (hv:v<Top) (hu:u<Top) (hs:v<u) (w:World):Calls Tryz.prog 170 #[.agg ⟨wiL true false v⟩,.agg ⟨wiL false false u⟩] w fun e w'=>e=.returned (.agg ⟨wiL (false&&decide (u-v≠0)) false (u-v)⟩)∧Below w.heap.size w w':=by
 have hv16:=Nat.lt_trans hv qbd
 have hu16:=Nat.lt_trans hu qbd
 refine qaf (G:=tys) w tysOK mixed Tryz.func170 (by rfl) (by first|rfl|(simp only[List.all_cons,List.all_nil,qaa,qab,qac];rfl)) (by first|exact qag _|exact qak _ _ _|rfl|(simp only[qap,List.all_cons,List.all_nil,qaa,qab,qac];rfl)) ?_
 repeat' (refine N.go ?_;first|with_reducible (first|refine N.obl (qa6 _ _ _) ?_|refine N.eq ?_|refine N.obl ⟨by kernel_rfl,by kernel_rfl⟩ ?_|refine N.alt ?_|refine N.forkF ?_)|refine N.call (cCmpS _ _ _ _ _ _ _ (qce (by rfl)) (qce (by rfl)) hv16 hu16) ?_|refine N.call (cSubS _ _ _ _ _ _ _ _ _ _ _ (by rfl) (by rfl) (by omega)) ?_|refine N.forkNo (by rw[decide_eq_false_iff_not];unfold cm;split<;>(try split)<;>omega) ?_|with_reducible refine N.call (cMade _ _ _ (Nat.lt_of_le_of_lt (Nat.sub_le _ _) hu)) ?_|refine N.forkNo (by decide) ?_|fail)
 all_goals rfl
theorem qhh {z:Int} (h:z<0):wz z=.agg ⟨wiL true false z.natAbs⟩:=by unfold wz;rw[decide_eq_true h]
theorem qhi {z:Int} (h:0≤z):wz z=.agg ⟨wiL false false z.natAbs⟩:=by unfold wz;rw[decide_eq_false (by omega)]
theorem wi_wz {b:Bool} {n:Nat} {z:Int} (h1:n=z.natAbs) (h2:b=decide (z<0)):(Value.agg ⟨wiL b false n⟩)=wz z:=by subst h1 h2;rfl
theorem add_z (a b:Int) (ha:a.natAbs<Top) (hb:b.natAbs<Top) (hab:(a+b).natAbs<Top) (w:World):Calls Tryz.prog 170 #[wz a,wz b] w fun e w'=>e=.returned (wz (a+b))∧Below w.heap.size w w':=by
 by_cases h1:a<0<;>by_cases h2:b<0
 ·rw[qhh h1,qhh h2]
  have:=qip a.natAbs b.natAbs ha hb (by omega) w
  rwa[wi_wz (b:=true&&decide (a.natAbs+b.natAbs≠0)) (n:=a.natAbs+b.natAbs) (z:=a+b) (by omega) (by rw[Bool.true_and];exact decide_eq_decide.2 (by omega))] at this
 ·rw[qhh h1,qhi (by omega:0≤b)]
  by_cases h3:b.natAbs≤a.natAbs
  ·have:=qk3 a.natAbs b.natAbs ha hb h3 w
   rwa[wi_wz (b:=true&&decide (a.natAbs-b.natAbs≠0)) (n:=a.natAbs-b.natAbs) (z:=a+b) (by omega) (by rw[Bool.true_and];exact decide_eq_decide.2 (by omega))] at this
  ·have:=qk4 a.natAbs b.natAbs ha hb (by omega) w
   rwa[wi_wz (b:=false&&decide (b.natAbs-a.natAbs≠0)) (n:=b.natAbs-a.natAbs) (z:=a+b) (by omega) (by rw[Bool.false_and,decide_eq_false (by omega)])] at this
 ·rw[qhi (by omega:0≤a),qhh h2]
  by_cases h3:b.natAbs≤a.natAbs
  ·have:=qjf a.natAbs b.natAbs ha hb h3 w
   rwa[wi_wz (b:=false&&decide (a.natAbs-b.natAbs≠0)) (n:=a.natAbs-b.natAbs) (z:=a+b) (by omega) (by rw[Bool.false_and,decide_eq_false (by omega)])] at this
  ·have:=qjg a.natAbs b.natAbs ha hb (by omega) w
   rwa[wi_wz (b:=true&&decide (b.natAbs-a.natAbs≠0)) (n:=b.natAbs-a.natAbs) (z:=a+b) (by omega) (by rw[Bool.true_and];exact decide_eq_decide.2 (by omega))] at this
 ·rw[qhi (by omega:0≤a),qhi (by omega:0≤b)]
  have:=qhm a.natAbs b.natAbs ha hb (by omega) w
  rwa[wi_wz (b:=false&&decide (a.natAbs+b.natAbs≠0)) (n:=a.natAbs+b.natAbs) (z:=a+b) (by omega) (by rw[Bool.false_and,decide_eq_false (by omega)])] at this
theorem cAddz (a b:Int) (h:Hp) (ha:a.natAbs<Top) (hb:b.natAbs<Top) (hab:(a+b).natAbs<Top):qad Tryz.prog 170 [wz a,wz b] h (wz (a+b)) [] []:=
 qai (by simp[qaa]) (qag _) (Tryz.call170 _) (add_z a b ha hb hab)
theorem q14 (a b:Int) (ha:a.natAbs<Top) (hb:b.natAbs<Top) (hab:(a-b).natAbs<Top) (w:World):Calls Tryz.prog 129 #[wz a,wz b] w fun e w'=>e=.returned (wz (a-b))∧Below w.heap.size w w':=by
 have hn:(-b).natAbs<Top:=by rwa[Int.natAbs_neg]
 have hs:(a + -b).natAbs<Top:=by rwa[←Int.sub_eq_add_neg]
 refine qaf (G:=tys) w tysOK mixed Tryz.func129 (by rfl) (by first|rfl|(simp only[List.all_cons,List.all_nil,qaa,qab,qac];rfl)) (by first|exact qag _|exact qak _ _ _|rfl|(simp only[qap,List.all_cons,List.all_nil,qaa,qab,qac];rfl)) ?_
 repeat' (refine N.go ?_;first|with_reducible (first|refine N.obl (qa6 _ _ _) ?_|refine N.eq ?_|refine N.obl ⟨by kernel_rfl,by kernel_rfl⟩ ?_|refine N.alt ?_|refine N.call (cNeg _ _ hb) ?_|refine N.call (cAddz _ _ _ ha hn hs) ?_)|fail)
 all_goals (rw[Int.sub_eq_add_neg])
theorem cSubz (a b:Int) (h:Hp) (ha:a.natAbs<Top) (hb:b.natAbs<Top) (hab:(a-b).natAbs<Top):qad Tryz.prog 129 [wz a,wz b] h (wz (a-b)) [] []:=
 qai (by simp[qaa]) (qag _) (Tryz.call129 _) (q14 a b ha hb hab)
def sgn (z:Int):Int:=if z<0 then -1 else if z=0 then 0 else 1
theorem q15 (z:Int):sgn z > 0↔z > 0:=by unfold sgn;split<;>(try split)<;>omega
theorem qg5 (z:Int):sgn z≥0↔z≥0:=by unfold sgn;split<;>(try split)<;>omega
theorem qxt (z:Int) (hz:z.natAbs<Top) (w:World):Calls Tryz.prog 73 #[wz z] w fun e w'=>e=.returned (.int .i64 (sgn z))∧Below w.heap.size w w':=by
 have hz16:=Nat.lt_trans hz qbd
 refine qaf (G:=tys) w tysOK mixed Tryz.func73 (by rfl) (by first|rfl|(simp only[List.all_cons,List.all_nil,qaa,qab,qac];rfl)) (by first|exact qag _|exact qak _ _ _|rfl|(simp only[qap,List.all_cons,List.all_nil,qaa,qab,qac];rfl)) ?_
 repeat' (refine N.go ?_;first|with_reducible (first|refine N.obl (qa6 _ _ _) ?_|refine N.obl (qby _ _) ?_|refine N.eq ?_|refine N.forkF ?_|refine N.bin _ (qgi _ _ _ _ hz16 false rfl) ?_)|with_reducible refine N.fork (fun hb=>?_) (fun hb=>?_)|fail)
 all_goals
  simp only[decide_eq_true_eq,decide_eq_false_iff_not,Bool.false_eq_true,if_false] at *
  unfold sgn
  first
   | rw[if_neg (by omega),if_pos (by omega)]
   | rw[if_pos (by omega)]
   | rw[if_neg (by omega),if_neg (by omega)]
theorem cSign (z:Int) (h:Hp) (hz:z.natAbs<Top):qad Tryz.prog 73 [wz z] h (.int .i64 (sgn z)) [] []:=
 qai (by simp[qaa]) rfl (Tryz.call73 _) (qxt z hz)
theorem q4g (n:Nat):dg n 0=n%18446744073709551616:=by
 show n / Bs^0%Bs=_
 rw[Nat.pow_zero,Nat.div_one]
def in64 (z:Int):Bool:=decide (-9223372036854775808≤z∧z<9223372036854775808)
def n64 (z:Int):Int:=if in64 z then z else 0
theorem tup2 {a b:Int} (h:a=b):Value.tuple ⟨[Value.int IntKind.i64 a,Value.bool true]⟩=Value.tuple #[Value.int IntKind.i64 b,Value.bool true]:=by rw[h]
theorem qp9 {z:Int} (h : -9223372036854775808≤z∧z<9223372036854775808):in64 z=true∧n64 z=z:=by
 have:in64 z=true:=decide_eq_true h
 exact⟨this,by unfold n64;rw[this];rfl⟩
theorem q16 {z:Int} (h:¬ (-9223372036854775808≤z∧z<9223372036854775808)):in64 z=false∧n64 z=0:=by
 have:in64 z=false:=decide_eq_false h
 exact⟨this,by unfold n64;rw[this];rfl⟩
theorem bl_le (n:Nat) (hn:n<Bs^16):bl n≤64↔n<18446744073709551616:=
 ⟨fun h=>Nat.lt_of_lt_of_le (qn4 n hn).1 (Nat.pow_le_pow_right (by decide) h:2^bl n≤2^64),fun h=>qge n 64 hn h⟩
theorem q17 (z:Int) (hz:z.natAbs<Top) (w:World):Calls Tryz.prog 181 #[.agg ⟨wiL (decide (z<0)) false z.natAbs⟩] w fun e w'=>e=.returned (.tuple #[.int .i64 (n64 z),.bool (in64 z)])∧Below w.heap.size w w':=by
 have hz16:=Nat.lt_trans hz qbd
 refine qaf (G:=tys) w tysOK mixed Tryz.func181 (by rfl) (by first|rfl|(simp only[List.all_cons,List.all_nil,qaa,qab,qac];rfl)) (by first|exact qag _|exact qak _ _ _|rfl|(simp only[qap,List.all_cons,List.all_nil,qaa,qab,qac];rfl)) ?_
 repeat' (refine N.go ?_;first|with_reducible (first|refine N.obl (qa6 _ _ _) ?_|refine N.eq ?_|refine N.forkT ?_|refine N.forkF ?_)|with_reducible refine N.fork (fun hb=>?_) (fun hb=>?_)|refine N.call (cBits _ _ _ _ (qce (by rfl))) ?_|fail)
 all_goals
  have hbl:=bl_le z.natAbs hz16
  have hdg:=q4g z.natAbs
  try simp only[IntKind.wrap_i64,IntKind.wrap_u64]
  generalize bl z.natAbs=B at *
  generalize dg z.natAbs 0=D at *
  clear hz hz16
  simp only[decide_eq_true_eq,decide_eq_false_iff_not,beq_iff_eq,beq_eq_false_iff_ne,Bool.not_eq_true',Bool.not_eq_false',ne_eq,gt_iff_lt] at *
  first
   | (obtain⟨e1,e2⟩:=qp9 (z:=z) (by omega);rw[e1,e2];exact tup2 (by omega))
   | (obtain⟨e1,e2⟩:=q16 (z:=z) (by omega);rw[e1,e2])
theorem q4h (z:Int) (h:Hp) (hz:z.natAbs<Top):qad Tryz.prog 181 [wz z] h (.tuple #[.int .i64 (n64 z),.bool (in64 z)]) [] []:=
 qai (by simp[qaa]) rfl (Tryz.call181 _) (q17 z hz)
def e64 (z:Int):Int:=if in64 z then 0 else 2
theorem qxu (z:Int) (hz:z.natAbs<Top) (w:World):Calls Tryz.prog 142 #[wz z,.int .i64 0] w fun e w'=>e=.returned (.tuple #[.int .i64 (n64 z),.int .i64 (e64 z)])∧Below w.heap.size w w':=by
 refine qaf (G:=tys) w tysOK mixed Tryz.func142 (by rfl) (by first|rfl|(simp only[List.all_cons,List.all_nil,qaa,qab,qac];rfl)) (by first|exact qag _|exact qak _ _ _|rfl|(simp only[qap,List.all_cons,List.all_nil,qaa,qab,qac];rfl)) ?_
 repeat' (refine N.go ?_;first|with_reducible (first|refine N.obl (qa6 _ _ _) ?_|refine N.eq ?_)|with_reducible refine N.fork (fun hb=>?_) (fun hb=>?_)|with_reducible refine N.call (q4h z _ hz) ?_|fail)
 ·exfalso;exact absurd hb (by decide)
 ·have h:in64 z=false:=by simpa using hb
  unfold n64 e64;rw[h];rfl
 ·have h:in64 z=true:=by simpa using hb
  unfold e64;rw[h];rfl
theorem qk5 (z:Int) (h:Hp) (hz:z.natAbs<Top):qad Tryz.prog 142 [wz z,.int .i64 0] h (.tuple #[.int .i64 (n64 z),.int .i64 (e64 z)]) [] []:=
 qai (by simp[qaa];rfl) rfl (Tryz.call142 _) (qxu z hz)
end Go.Proofs.YtdljelmbjdjpjaaGreat
