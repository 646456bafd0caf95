/-
  The walks of air at mails with bytes: Delete, Take.
-/
import Derived.Test.YtdljelmbjdjpjaaGreatK6
set_option linter.unusedVariables false
set_option linter.unusedSimpArgs false
set_option maxRecDepth 100000
set_option maxHeartbeats 20000000

namespace Go.Proofs.YtdljelmbjdjpjaaGreat
open Go Go.RowKit Sx
def delM (T:Nat→Ml) (n x i:Nat):Ml:=if x≤i∧i<n-1 then T (i+1) else T i
def delMT (T:Nat→Ml) (n x i:Nat):Ml:=if i=n-1 then Ml.z else delM T n x i
theorem qyx {o:Bool} {c n x p sz:Nat} {T:Nat→Ml} (hs:sz=5) (hn:n≤c) (hx:x<n) (e:n=x+1∧p≤c*5∨p=(x+1)*5):Reads (mlA o c T) p true ((n-(x+1))*sz) (.agg ⟨segL ((n-(x+1))*5) (fun j=>mlc (T (j / 5+(x+1))) (j%5))⟩):=by
 subst hs
 rcases e with ⟨rfl,hp⟩|rfl
 ·refine⟨by show p+_≤c*5;omega,_,rfl,qka _ _,fun j hj=>absurd hj (by omega)⟩
 ·refine⟨by show(x+1)*5+(n-(x+1))*5≤c*5;omega,_,rfl,qka _ _,fun j hj=>?_⟩
  show _=(segL _ _).getD j undef
  rw[qcn hj,qaq (by omega),show((x+1)*5+j) / 5=j / 5+(x+1) from by omega,show((x+1)*5+j)%5=j%5 from by omega]
theorem q27 {n m:Nat} {T:Nat→Ml} (hs:m=n*5):flatB (.agg ⟨segL (n*5) (fun j=>mlc (T (j / 5)) (j%5))⟩) m=true:=by
 subst hs
 exact qo3 fun j _=>qvl _ _
theorem qyy {c n x p m:Nat} {T:Nat→Ml} (hn:n≤c) (hx:x<n) (hm:m=(n-(x+1))*5) (e:p=x*5):Writes (mlA true c T) p m (.agg ⟨segL ((n-(x+1))*5) (fun j=>mlc (T (j / 5+(x+1))) (j%5))⟩) (mlA true c (delM T n x)):=by
 subst e hm
 refine⟨rfl,by show x*5+(n-(x+1))*5≤c*5;omega,rfl,fun j hj=>?_⟩
 have hj:j<c*5:=hj
 rw[qaq hj,qaq hj]
 unfold delM
 by_cases e:x*5≤j∧j<x*5+(n-(x+1))*5
 ·rw[if_pos e,if_pos (by omega)]
  show _=(segL _ _).getD (j-x*5) undef
  rw[qcn (by omega),show(j-x*5) / 5+(x+1)=j / 5+1 from by omega,show(j-x*5)%5=j%5 from by omega]
 ·rw[if_neg e,if_neg (by omega)]
abbrev mlZ (c:Nat) (T:Nat→Ml) (z:Nat):Chunk:=⟨true,c*5,[(0,c*5,.agg ⟨segL (c*5) (fun j=>if j / 5=z then repZ 5 (.agg #[.int .i64 0,.slice none 0 0,.int .i64 0,.int .i64 0,.bool false]) (j-z*5) else mlc (T (j / 5)) (j%5))⟩)]⟩
theorem qyz {c n p m:Nat} {T:Nat→Ml} (hn:n≤c) (h1:1≤n) (hm:m=5) (e:p=(n-1)*5):Writes (mlA true c T) p m (.agg ⟨segL 5 (repZ 5 (.agg #[.int .i64 0,.slice none 0 0,.int .i64 0,.int .i64 0,.bool false]))⟩) (mlZ c T (n-1)):=by
 subst e hm
 refine⟨rfl,by show(n-1)*5+5≤c*5;omega,rfl,fun j hj=>?_⟩
 have hj:j<c*5:=hj
 rw[qaq hj,qaq hj]
 by_cases e:(n-1)*5≤j∧j<(n-1)*5+5
 ·rw[if_pos e,if_pos (by omega)]
  show _=(segL _ _).getD (j-(n-1)*5) undef
  rw[qcn (by omega)]
 ·rw[if_neg e,if_neg (by omega)]
theorem qy0 {ix:List (Nat×Nat)} {c n x:Nat} {T:Nat→Ml} {j:Nat} (hj:j<c*5):Re1 ix ((mlA true c (delMT T n x)).f j) ((mlZ c (delM T n x) (n-1)).f j):=by
 rw[qaq hj,qaq hj]
 unfold delMT
 by_cases e:j / 5=n-1
 ·rw[if_pos e,if_pos e]
  have:(j-(n-1)*5)=j%5:=by omega
  rw[this]
  have hk:j%5<5:=Nat.mod_lt _ (by decide)
  have:=qqn (j%5)
  rw[Nat.mod_mod] at this
  exact .any (fun r r'=>(this r' r).symm)
 ·rw[if_neg e,if_neg e];exact qvk _ _
theorem qvs {ix:List (Nat×Nat)} {c n x:Nat} {T:Nat→Ml} {hp:Hp} {k:Nat} (hh:hp[k]?=some (some (mlZ c (delM T n x) (n-1)))):PostC ix hp k (mlA true c (delMT T n x)):=⟨_,hh,id,nlr _,fun j hj=>qy0 hj⟩
theorem qy1 (i n c x:Nat) (T:Nat→Ml) (h:Hp) (hi:h[i]?=some (some (mlA true c T))) (hx:x<n) (hm:n≤1000) (hc:n≤c) :
  qad Tryz.prog 94 [.slice (some ⟨i,0,some 0⟩) n c,.int .i64 (x:Nat),.int .i64 ((x:Int)+1)] h (.slice (some ⟨i,0,some 0⟩) (n-1) c) [(i,mlA true c (delMT T n x))] []:=by
 have e0:0+(if c=0 then 0 else 0*Tryz.t111.size)=0:=by split<;>simp
 have e2:∃ g,0+(if c=x+1 then 0 else (x+1)*Tryz.t111.size)=g∧(n=x+1∧g≤c*5∨g=(x+1)*5):=by
  by_cases e:c=x+1
  ·exact⟨0,by rw[if_pos e],.inl ⟨by omega,by omega⟩⟩
  ·exact⟨(x+1)*5,by rw[if_neg e];show 0+(x+1)*5=_;omega,.inr rfl⟩
 obtain⟨g,e2,hg⟩:=e2
 have e3:0+(if c=n-1 then 0 else (n-1)*Tryz.t111.size)=(n-1)*5:=by rw[if_neg (by omega)];show 0+(n-1)*5=_;omega
 refine qar (G:=tys) [⟨i,_,mlA true c T,mlA true c (delMT T n x)⟩] [] [.slice (some ⟨0,0,some 0⟩) n c,.int .i64 (x:Nat),.int .i64 ((x:Int)+1)] tysOK mixed Tryz.func94 (by rfl) (Tryz.call94) ⟨hi,trivial⟩ ⟨⟨fun h=>⟨rfl,nlr _⟩,nlr _,qqo⟩,trivial⟩ (by simp[Apart]) trivial ⟨.slice rfl,.plain rfl,.plain rfl,trivial⟩ ?_
 repeat' (refine N.go ?_;first|refine N.forkNo (beq_false_of_ne (by omega)) ?_|refine N.bnd3 x (x+1) n 1 ⟨rfl,hc⟩ ⟨by rfl,by omega⟩ ⟨rfl,by omega⟩ ?_|fail)
 refine N.go ?_
 refine N.plan [0,1,2,3,4,5] [(6,[7])] (by kernel_rfl) ?_
 repeat' (refine N.go ?_;first|with_reducible refine N.obl (by decide) ?_|(refine N.bnd 0 x 0 ⟨rfl,by omega⟩ rfl ?_;rw[e0,show x-0=x from by omega,show c-0=c from rfl])|(refine N.bnd (x+1) n 1 rfl ⟨by rfl,by omega⟩ ?_;rw[e2])|fail)
 refine N.go ?_
 refine AppN.mk1 _ (qyx rfl hc hx hg) (q27 (T:=fun i=>T (i+(x+1))) rfl) (by show x*5≤c*5;omega) (by omega) (by show(x+(n-(x+1)))*56≤_;omega) (mlA true c (delM T n x)) (fun _=>qyy hc hx rfl rfl) (fun hr=>?_) (fun hg cap hcap=>absurd hg (by omega))
 rw[show x+(n-(x+1))=n-1 from by omega]
 repeat' (refine N.go ?_;first|with_reducible refine N.obl (by decide) ?_|(refine N.bnd (n-1) n 1 ⟨rfl,by omega⟩ ⟨rfl,by omega⟩ ?_;rw[e3,show n-(n-1)=1 from by omega])|refine N.clr (mlZ c (delM T n x) (n-1)) (by decide) (qyz hc (by omega) rfl rfl) ?_|refine N.obl (.one (.slice (by rfl))) ?_|refine N.obl ⟨qvs (by rfl),trivial⟩ ?_|refine N.obl trivial ?_|exact N.true|fail)
theorem q28 {L:List Ml} {x:Nat} {T:Nat→Ml} (hx:x<L.length) (hT:∀ i m,L[i]?=some m→T i=m):∀ i m,(L.eraseIdx x)[i]?=some m→delMT T L.length x i=m:=fun i m hm=>by
 have hl:=(List.getElem?_eq_some_iff.1 hm).1
 rw[List.length_eraseIdx_of_lt hx] at hl
 rw[List.getElem?_eraseIdx] at hm
 unfold delMT delM
 rw[if_neg (by omega)]
 split at hm
 ·rw[if_neg (by omega)];exact hT i m hm
 ·rw[if_pos (by omega)];exact hT _ m hm
theorem q5v (W:World) (F:List By) (L:List Ml) (x:Nat) (m:Ml) (bs:List Int) (i j:Nat) (hij:i≠j) (h:Hp) (hi:h[i]?=some (some (airP L))) (hj:h[j]?=some (some (memC W F))) (hm:L[x]?=some m) (hs:Src W F m.u bs) (hb:bs.length≤1048576) (hl:L.length≤1000) :
  CallAll Tryz.prog 60 [.pointer (some ⟨i,0,some 0⟩),.int .i64 (x:Nat)] h (fun v ms=>∃ u' F',Made F bs u' F'∧v=.tuple ⟨[mailV m.to_ u' m.at_ m.tr m.be,.bool true]⟩∧ms=[(i,airP (L.eraseIdx x)),(j,memC W F')]):=by
 refine CallAll.to (qaj (G:=tys) (h:=h) (vs:=[.pointer (some ⟨i,0,some 0⟩),.int .i64 (x:Nat)]) (airOK L) (airO W F L) (α:=Option Sl×List By) (fun κ=>Made F bs κ.1 κ.2) (fun κ=>.tuple ⟨[mailV m.to_ κ.1 m.at_ m.tr m.be,.bool true]⟩) [⟨i,airP L,airP L,airP L⟩,⟨j,memC W F,memC W F,memC W F⟩] (fun κ=>[airP (L.eraseIdx x),memC W (κ.2)]) (fun κ=>[]) [.pointer (some ⟨0,0,some 0⟩),.int .i64 (x:Nat)] tysOK mixed Tryz.func60 (by rfl) (Tryz.call60) ⟨hi,hj,trivial⟩ ⟨⟨fun h=>⟨rfl,nlr _⟩,nlr _,nzj⟩,⟨fun h=>⟨rfl,nlr _⟩,nlr _,nzj⟩,trivial⟩ (fun κ _=>⟨⟨fun h=>⟨rfl,nlr _⟩,nlr _,nzj⟩,⟨fun h=>⟨rfl,nlr _⟩,nlr _,nzj⟩,trivial⟩) (by simp[Apart,hij]) ⟨.inr ⟨rfl,rfl⟩,.inr ⟨rfl,rfl⟩,trivial⟩ (fun κ _=>trivial) ⟨.ptr rfl,.plain rfl,trivial⟩ qfe ?_) ?_
 rotate_left
 ·rintro v ms ⟨κ,hκ,rfl,rfl⟩
  exact⟨κ.1,κ.2,hκ,rfl,rfl⟩
 intro β hβ
 have hx:x<L.length:=(List.getElem?_eq_some_iff.1 hm).1
 have hw:IntKind.i64.wrap ((x:Int)+1)=(x:Int)+1:=i64s _ (by omega) (by omega)
 cases β with
 | none=>
  obtain rfl:L=[]:=hβ
  simp at hx
 | some q=>
  obtain⟨c,T⟩:=q
  obtain⟨hc1,hlc,hT⟩:=hβ
  obtain rfl:T x=m:=hT x m hm
  skip
  refine N.go ?_
  refine N.callAll (cGetO W F L.length c x T bs hx hlc hs hb 0 2 1 (by decide) _ (by rfl) (by rfl) (by rfl)) fun v ms hR=>?_
  obtain⟨u',F',hM,rfl,rfl⟩:=hR
  repeat' (refine N.go ?_;first|with_reducible (first|refine N.obl rfl ?_|refine N.forkT ?_)|(rw[hw];refine N.call (qy1 2 L.length c x T _ (by rfl) hx hl hlc) ?_)|fail)
  refine N.go ?_
  refine qff (W:=W) (F:=F') (L.eraseIdx x) 2 c (delMT T L.length x) rfl qj1 hc1 (by rw[List.length_eraseIdx_of_lt hx];omega) (q28 hx hT) (by rfl) rfl (nlr _) (by rw[List.length_eraseIdx_of_lt hx];rfl) (by rfl) (by rfl) (by decide) rfl (nlr _) (fun j hj=>qcx (qaq hj)) (qvo _ _ _ _ _ _) ?_
  refine N.some (u',F') ⟨hM,?_⟩
  refine N.obl (.tuple ⟨qgn _ _ _ _ _,.plain rfl,trivial⟩) ?_
  refine N.obl ⟨⟨_,rfl,fun h=>h,nlr _,nzj⟩,⟨_,rfl,fun h=>h,nlr _,nzj⟩,trivial⟩ ?_
  refine N.obl trivial ?_
  refine N.obl ⟨⟨.inr ⟨_,rfl,rfl⟩,.inr ⟨_,rfl,rfl⟩,trivial⟩,trivial⟩ ?_
  exact N.true
theorem qqs (L:List Ml) (to_ at_ tr:Int) (be:Bool) (u:Option Sl) (hl:512≤L.length) (i:Nat) (h:Hp) (hi:h[i]?=some (some (airP L))):qad Tryz.prog 84 [.pointer (some ⟨i,0,some 0⟩),mailV to_ u at_ tr be] h (.bool false) [(i,airP (L))] []:=by
 refine qax (G:=tys) (airOK L) (airH L) [⟨i,airP L,airP L,airP (L)⟩] [] [.pointer (some ⟨0,0,some 0⟩),mailV to_ u at_ tr be] tysOK mixed Tryz.func84 (by rfl) (Tryz.call84) ⟨hi,trivial⟩ ⟨⟨fun h=>⟨rfl,nlr _⟩,nlr _,nzj⟩,trivial⟩ (by simp[Apart]) ⟨.inr ⟨rfl,rfl⟩,trivial⟩ trivial ⟨.ptr rfl,qgn _ _ _ _ _,trivial⟩ qat ?_
 intro β hβ
 cases β with
 | none=>
  obtain rfl:L=[]:=hβ
  exact absurd hl (by decide)
 | some r=>
  obtain⟨c,T⟩:=r
  obtain⟨hc1,hlc,hT⟩:=hβ
  repeat' (refine N.go ?_;first|with_reducible (first|refine N.obl rfl ?_|refine N.forkT ?_|refine N.forkF ?_)|refine N.forkYes (by rw[decide_eq_true_eq];omega) ?_|fail)
  refine N.go ?_
  refine qbx 0 [] (L) 1 c (T) qdl qfn hc1 hlc hT (by rfl) rfl (nlr _) rfl (by rfl) (by decide) rfl (nlr _) (fun j hj=>qcx (qaq hj)) (fun x hx=>by cases hx) (fun x hx=>by cases hx) (qbi rfl) ?_
  refine N.obl (.plain rfl) ?_
  refine N.obl ⟨⟨_,rfl,fun h=>h,nlr _,nzj⟩,trivial⟩ ?_
  refine N.obl trivial ?_
  refine N.obl ⟨⟨.inr ⟨_,rfl,rfl⟩,trivial⟩,trivial⟩ ?_
  exact N.true
theorem qoq (W:World) (F:List By) (L:List Ml) (x:Nat) (m:Ml) (bs:List Int) (i j:Nat) (hij:i≠j) (h:Hp) (hi:h[i]?=some (some (airP L))) (hj:h[j]?=some (some (memC W F))) (hm:L[x]?=some m) (hs:Src W F m.u bs) (hb:bs.length≤1000) (hl:512≤L.length) :
  CallAll Tryz.prog 63 [.pointer (some ⟨i,0,some 0⟩),.int .i64 (x:Nat)] h (fun v ms=>∃ u' F',Made F bs u' F'∧v=.bool false∧ms=[(i,airP L),(j,memC W F')]):=by
 refine CallAll.to (qaj (G:=tys) (h:=h) (vs:=[.pointer (some ⟨i,0,some 0⟩),.int .i64 (x:Nat)]) (fun _:Unit=>True) (fun _=>partH [⟨i,airP L,airP L,airP L⟩,⟨j,memC W F,memC W F,memC W F⟩]) (α:=Option Sl×List By) (fun κ=>Made F bs κ.1 κ.2) (fun κ=>.bool false) [⟨i,airP L,airP L,airP L⟩,⟨j,memC W F,memC W F,memC W F⟩] (fun κ=>[airP (L),memC W (κ.2)]) (fun κ=>[]) [.pointer (some ⟨0,0,some 0⟩),.int .i64 (x:Nat)] tysOK mixed Tryz.func63 (by rfl) (Tryz.call63) ⟨hi,hj,trivial⟩ ⟨⟨fun h=>⟨rfl,nlr _⟩,nlr _,nzj⟩,⟨fun h=>⟨rfl,nlr _⟩,nlr _,nzj⟩,trivial⟩ (fun κ _=>⟨⟨fun h=>⟨rfl,nlr _⟩,nlr _,nzj⟩,⟨fun h=>⟨rfl,nlr _⟩,nlr _,nzj⟩,trivial⟩) (by simp[Apart,hij]) ⟨.inr ⟨rfl,rfl⟩,.inr ⟨rfl,rfl⟩,trivial⟩ (fun κ _=>trivial) ⟨.ptr rfl,.plain rfl,trivial⟩ Opens.same ?_) ?_
 rotate_left
 ·rintro v ms ⟨κ,hκ,rfl,rfl⟩
  exact⟨κ.1,κ.2,hκ,rfl,rfl⟩
 rintro⟨⟩ -
 skip
 refine N.go ?_
 refine N.callAll (cGetM W F L x m bs 0 1 (by decide) _ (by rfl) (by rfl) hm hs (by omega)) fun v ms hR=>?_
 obtain⟨u1,F1,hM1,rfl,rfl⟩:=hR
 repeat' (refine N.go ?_;first|with_reducible (first|refine N.obl rfl ?_|refine N.forkT ?_)|refine N.call (qqs L _ _ _ _ _ hl 0 _ (by rfl)) ?_|fail)
 refine N.go ?_
 refine N.endSame ?_
 refine N.some (u1,F1) ⟨hM1,?_⟩
 refine N.obl (.plain rfl) ?_
 refine N.obl ⟨⟨_,rfl,fun h=>h,nlr _,nzj⟩,⟨_,rfl,fun h=>h,nlr _,nzj⟩,trivial⟩ ?_
 refine N.obl trivial ?_
 refine N.obl ⟨⟨.inr ⟨_,rfl,rfl⟩,.inr ⟨_,rfl,rfl⟩,trivial⟩,trivial⟩ ?_
 exact N.true
open Go Go.RowKit Sx
inductive Own (F:List By):Option Sl→List Int→Prop
 | nil:Own F none []
 | own {e:By} (he:e∈F):Own F e.s e.bs
theorem Own.src {W:World} {F:List By} {u:Option Sl} {bs:List Int} (h:Own F u bs):Src W F u bs:=by
 cases h with
 | nil=>exact .nil
 | own he=>exact .own he
theorem Own.more {F F':List By} (hF:∀ e∈F,e∈F') {u:Option Sl} {bs:List Int} (h:Own F u bs):Own F' u bs:=by
 cases h with
 | nil=>exact .nil
 | own he=>exact .own (hF _ he)
theorem Own.or {F:List By} {u:Option Sl} {bs:List Int} (h:Own F u bs):(u=none∧bs=[])∨∃ e∈F,u=e.s∧bs=e.bs:=by
 cases h with
 | nil=>exact .inl ⟨rfl,rfl⟩
 | own he=>exact .inr ⟨_,he,rfl,rfl⟩
theorem Own.blk {F:List By} {u:Option Sl} {bs:List Int} (h:Own F u bs) {s:Sl} (hs:u=some s):s.b∈F.map By.b:=by
 cases h with
 | nil=>cases hs
 | own he=>cases hs;exact List.mem_map.2 ⟨_,he,rfl⟩
theorem qqt {F F':List By} {bs:List Int} {u:Option Sl} (h:Made F bs u F'):Own F' u bs:=by
 cases h with
 | nil h=>subst h;exact .nil
 | new hb=>exact .own (List.mem_cons_self ..)
structure Am where
 to_:Int
 bs:List Int
 at_:Int
 tr:Int
 be:Bool
structure MlA (W:World) (F:List By) (m:Ml) (a:Am):Prop where
 to_:m.to_=a.to_
 at_:m.at_=a.at_
 tr:m.tr=a.tr
 be:m.be=a.be
 own:Own F m.u a.bs
 len:a.bs.length≤1000
theorem MlA.src {W:World} {F:List By} {m:Ml} {a:Am} (h:MlA W F m a):Src W F m.u a.bs:=h.own.src
inductive AirA (W:World) (F:List By):List Ml→List Am→Prop
 | nil:AirA W F [] []
 | cons {m:Ml} {a:Am} {L:List Ml} {A:List Am} (h:MlA W F m a) (t:AirA W F L A):AirA W F (m::L) (a::A)
theorem AirA.len {W:World} {F:List By} {L:List Ml} {A:List Am} (h:AirA W F L A):L.length=A.length:=by
 induction h with
 | nil=>rfl
 | cons _ _ ih=>rw[List.length_cons,List.length_cons,ih]
theorem AirA.snoc {W:World} {F:List By} {L:List Ml} {A:List Am} (h:AirA W F L A) {m:Ml} {a:Am} (hm:MlA W F m a):AirA W F (L++[m]) (A++[a]):=by
 induction h with
 | nil=>exact .cons hm .nil
 | cons h _ ih=>exact .cons h ih
theorem AirA.mono {W:World} {F F':List By} {L:List Ml} {A:List Am} (h:AirA W F L A) (hs:∀ e,e∈F→e∈F'):AirA W F' L A:=by
 induction h with
 | nil=>exact .nil
 | cons h _ ih=>exact .cons ⟨h.to_,h.at_,h.tr,h.be,h.own.more hs,h.len⟩ ih
theorem AirA.get {W:World} {F:List By} {L:List Ml} {A:List Am} (h:AirA W F L A):∀ {i:Nat} {a:Am},A[i]?=some a→∃ m,L[i]?=some m∧MlA W F m a:=by
 induction h with
 | nil=>intro i a ha;simp at ha
 | cons h _ ih=>
  intro i a ha
  cases i with
  | zero=>exact⟨_,rfl,by simpa using (by simpa using ha:_=a)▸h⟩
  | succ i=>exact ih (by simpa using ha)
theorem AirA.erase {W:World} {F:List By} {L:List Ml} {A:List Am} (h:AirA W F L A):∀ i,AirA W F (L.eraseIdx i) (A.eraseIdx i):=by
 induction h with
 | nil=>intro i;exact .nil
 | cons h t ih=>
  intro i
  cases i with
  | zero=>exact t
  | succ i=>exact .cons h (ih i)
def putA (s:List Am×Int) (m:Am):List Am×Int:=if s.1.length<512 then (s.1++[m],s.2) else (s.1,min (s.2+1) 1000000)
def sendA (i:Nat) (on:Nat→Bool) (mk:Nat→Am) (s:List Am×Int):Nat→List Am×Int
 | 0=>s
 | j+1=>if j=i∨on j=false then sendA i on mk s j else putA (sendA i on mk s j) (mk j)
theorem qfg (i:Nat) (on:Nat→Bool) (mk:Nat→Am) (s:List Am×Int) (h:0≤s.2∧s.2≤1000000):∀ j,0≤(sendA i on mk s j).2∧(sendA i on mk s j).2≤1000000
 | 0=>h
 | j+1=>by
  have ih:=qfg i on mk s h j
  unfold sendA
  split
  ·exact ih
  ·unfold putA
   split
   ·exact ih
   ·show 0≤min ((sendA i on mk s j).2+1) 1000000∧min ((sendA i on mk s j).2+1) 1000000≤1000000
    omega
def trA (P:Nat→Int) (i:Nat) (g:Int) (j:Nat):Int:=IntKind.i64.wrap (g+distN (P (i*2)) (P (i*2+1)) (P (j*2)) (P (j*2+1)))
def fiA (C:Nat→Int) (j:Nat) (t:Int):Int:=if qix (offN j 13 (C 5)) (IntKind.i64.wrap (12345*(j:Int))) t then fineN (offN j 13 (C 5)) (IntKind.i64.wrap (12345*(j:Int))) t else 0
def mkA (C P:Nat→Int) (bs:List Int) (i:Nat) (g:Int) (j:Nat):Am:=⟨(j:Int),bs,fiA C j (trA P i g j),trA P i g j,false⟩
theorem qi6 {F F':List By} {bs:List Int} {u:Option Sl} (h:Made F bs u F'):∀ e,e∈F→e∈F':=fun e he=>h.sub e he
theorem qqu {F:List By} {e0:By}:∀ e,e∈F→e∈e0::F:=fun e he=>List.mem_cons_of_mem _ he
theorem qdu {ix:List (Nat×Nat)} {k:IntKind} {a b:Int} (h:a=b):Re1 ix (.int k a) (.int k b):=by subst h;exact .plain rfl
theorem qqv {k s b q st ds t1 t2 wh wn x y a c d:Int}:(encB k s b q st ds t1 t2 wh wn x y a c d).length≤1000:=by
 unfold encB encH
 simp only[List.length_append,qci,List.length_cons,List.length_nil]
 decide
theorem on_re {ix:List (Nat×Nat)} {x:Ext} {o o':Bool} {n:Nat} {on:Nat→Bool}:qb2 ix (@Chunk.mk x o n [(0,n,.agg ⟨segL n (fun j=>.bool (on j))⟩)]) (mvP o' n on):=fun j hj=>by
 have hj:j<n:=hj
 have e:∀ (x:Ext) (o:Bool),(@Chunk.mk x o n [(0,n,.agg ⟨segL n (fun j=>.bool (on j))⟩)]).f j=.bool (on j):=fun x o=>by
  show qa5 _ _=_
  rw[qao,if_pos (by omega)]
  exact qcn hj
 rw[e,e]
 exact .plain rfl
theorem qlg (C:Nat→Int) (n cap wc:Nat) (hn:1≤n∧n≤64) (h5:0≤C 5∧C 5≤1000) (lost:Int) (hl:0≤lost∧lost≤1000000) (P:Nat→Int) (M:Nat→Bool) (tm st:Int) (X:Ext) (on:Nat→Bool) (f:Nat→Value) (W:World) (F:List By) (L:List Ml) (A:List Am) (hA:AirA W F L A) (i:Nat) (hi:i<n) (g:Int) (k s b q st' ds t1 t2 wh wn x y a c d e':Int) (oc:Nat)
  (hk:Fi k) (hs:Fi s) (hb:Fi b) (hq:Fi q) (hst:Fi st') (hds:Fi ds) (ht1:Fi t1) (ht2:Fi t2) (hwh:Fi wh) (hwn:Fi wn) (hx:Fi x) (hy:Fi y) (ha:Fi a) (hc:Fi c) (hd:Fi d) (hM:∀ h,qad Tryz.prog 108 [frF k s b q st' ds t1 t2 wh wn x y a c d] h (.bool true) [] [])
  (i0 i1 i2 i3 i4 i5 i6 i7 i8:Nat) (h:Hp) (h0:h[i0]?=some (some (flC C n i1 i6 i4 (.slice (some ⟨i5,0,some 0⟩) n cap) lost))) (h1:h[i1]?=some (some (wcc true C n wc i2 i3 tm st))) (h2:h[i2]?=some (some (ptP true n P))) (h3:h[i3]?=some (some (mvP true n M))) (h4:h[i4]?=some (some (onC X n on))) (h5':h[i5]?=some (some (prC cap f))) (h6:h[i6]?=some (some (airP L))) (h7:h[i7]?=some (some (memC W F))) (h8:h[i8]?=some (some (outC (outV k s b q st' ds t1 t2 wh wn x y a c d e')))) (hne:[i0,i1,i2,i3,i4,i5,i6,i7,i8].Nodup) :
  CallAll Tryz.prog 56 [.pointer (some ⟨i0,0,some 0⟩),.int .i64 (i:Int),.slice (some ⟨i8,0,some 0⟩) 1 oc,.int .i64 g] h fun v ms=>∃ L' F',AirA W F' L' (sendA i on (mkA C P (encB k s b q st' ds t1 t2 wh wn x y a c d) i g) (A,lost) n).1∧(∀ e,e∈F→e∈F')∧v=.tuple #[]∧ms=[(i0,flC C n i1 i6 i4 (.slice (some ⟨i5,0,some 0⟩) n cap) (sendA i on (mkA C P (encB k s b q st' ds t1 t2 wh wn x y a c d) i g) (A,lost) n).2),(i6,airP L'),(i7,memC W F')]:=by
 have key:=qaj (G:=tys) (h:=h) (vs:=[.pointer (some ⟨i0,0,some 0⟩),.int .i64 (i:Int),.slice (some ⟨i8,0,some 0⟩) 1 oc,.int .i64 g]) (fun _:Unit=>True) (fun _=>_) (α:=List Ml×List By) (fun κ=>AirA W κ.2 κ.1 (sendA i on (mkA C P (encB k s b q st' ds t1 t2 wh wn x y a c d) i g) (A,lost) n).1∧∀ e,e∈F→e∈κ.2) (fun κ=>.tuple #[])
  [⟨i0,flC C n i1 i6 i4 (.slice (some ⟨i5,0,some 0⟩) n cap) lost,flC C n 1 6 4 (.slice (some ⟨5,0,some 0⟩) n cap) lost,(@Chunk.mk Ext.none false 0 [])⟩,⟨i1,wcc true C n wc i2 i3 tm st,wcc false C n wc 2 3 tm st,(@Chunk.mk Ext.none false 0 [])⟩,⟨i2,ptP true n P,ptP false n P,(@Chunk.mk Ext.none false 0 [])⟩,⟨i3,mvP true n M,mvP false n M,(@Chunk.mk Ext.none false 0 [])⟩,⟨i4,onC X n on,mvP false n on,(@Chunk.mk Ext.none false 0 [])⟩,⟨i5,prC cap f,(@Chunk.mk Ext.none false 0 []),(@Chunk.mk Ext.none false 0 [])⟩,⟨i6,airP L,airP L,(@Chunk.mk Ext.none false 0 [])⟩,⟨i7,memC W F,memC W F,(@Chunk.mk Ext.none false 0 [])⟩,⟨i8,outC (outV k s b q st' ds t1 t2 wh wn x y a c d e'),(@Chunk.mk Ext.none false 16 [(0,16,outV k s b q st' ds t1 t2 wh wn x y a c d e')]),(@Chunk.mk Ext.none false 0 [])⟩]
  (fun κ=>[flC C n i1 i6 i4 (.slice (some ⟨i5,0,some 0⟩) n cap) (sendA i on (mkA C P (encB k s b q st' ds t1 t2 wh wn x y a c d) i g) (A,lost) n).2,(@Chunk.mk Ext.none false 0 []),(@Chunk.mk Ext.none false 0 []),(@Chunk.mk Ext.none false 0 []),(@Chunk.mk Ext.none false 0 []),(@Chunk.mk Ext.none false 0 []),airP κ.1,memC W κ.2,(@Chunk.mk Ext.none false 0 [])]) (fun κ=>[]) [.pointer (some ⟨0,0,some 0⟩),.int .i64 (i:Int),.slice (some ⟨8,0,some 0⟩) 1 oc,.int .i64 g] tysOK mixed Tryz.func56 (by rfl) (Tryz.call56) ⟨h0,h1,h2,h3,h4,h5',h6,h7,h8,trivial⟩ ?_ ?_ ?_ ?_ ?_ ?_ Opens.same ?_
 ·simp only[List.nodup_cons,List.mem_cons,List.not_mem_nil,or_false,not_or,List.nodup_nil,and_true,not_false_eq_true] at hne
  obtain⟨⟨n01,n02,n03,n04,n05,n06,n07,n08⟩,⟨n12,n13,n14,n15,n16,n17,n18⟩,⟨n23,n24,n25,n26,n27,n28⟩,⟨n34,n35,n36,n37,n38⟩,⟨n45,n46,n47,n48⟩,⟨n56,n57,n58⟩,⟨n67,n68⟩,n78⟩:=hne
  refine qae key fun v ms hR=>?_
  obtain⟨κ,hκ,rfl,rfl⟩:=hR
  exact⟨κ.1,κ.2,hκ.1,hκ.2,rfl,rfl⟩
 ·exact⟨⟨fun h=>⟨rfl,Nat.zero_le _⟩,nlr _,(by first|(refine lt16 ?_ ?_ ?_ ?_ ?_ ?_ ?_ ?_ ?_ ?_ ?_ ?_ ?_ ?_ ?_ ?_<;>first|exact Re1.plain rfl|exact Re1.ptr rfl|exact Re1.slice rfl)|fail)⟩,⟨fun h=>(by cases h),nlr _,qch rfl rfl⟩,⟨fun h=>(by cases h),nlr _,qa8⟩,⟨fun h=>(by cases h),nlr _,qay⟩,⟨fun h=>(by cases h),nlr _,on_re⟩,⟨fun h=>(by cases h),Nat.zero_le _,nzj⟩,⟨fun h=>⟨rfl,Nat.zero_le _⟩,nlr _,nzj⟩,⟨fun h=>⟨rfl,Nat.zero_le _⟩,nlr _,nzj⟩,⟨fun h=>(by cases h),nlr _,(by first|(refine lt16 ?_ ?_ ?_ ?_ ?_ ?_ ?_ ?_ ?_ ?_ ?_ ?_ ?_ ?_ ?_ ?_<;>exact .plain rfl)|fail)⟩,trivial⟩
 ·exact fun κ _=>⟨⟨fun h=>⟨rfl,nlr _⟩,nlr _,(by first|(refine lt16 ?_ ?_ ?_ ?_ ?_ ?_ ?_ ?_ ?_ ?_ ?_ ?_ ?_ ?_ ?_ ?_<;>first|exact Re1.plain rfl|exact Re1.ptr rfl|exact Re1.slice rfl)|fail)⟩,⟨fun h=>(by cases h),nlr _,qch rfl rfl⟩,⟨fun h=>(by cases h),nlr _,qa8⟩,⟨fun h=>(by cases h),nlr _,qay⟩,⟨fun h=>(by cases h),nlr _,on_re⟩,⟨fun h=>(by cases h),Nat.zero_le _,nzj⟩,⟨fun h=>⟨rfl,nlr _⟩,nlr _,nzj⟩,⟨fun h=>⟨rfl,nlr _⟩,nlr _,nzj⟩,⟨fun h=>(by cases h),nlr _,(by first|(refine lt16 ?_ ?_ ?_ ?_ ?_ ?_ ?_ ?_ ?_ ?_ ?_ ?_ ?_ ?_ ?_ ?_<;>exact .plain rfl)|fail)⟩,trivial⟩
 ·simp only[List.nodup_cons,List.mem_cons,List.not_mem_nil,or_false,not_or,List.nodup_nil,and_true,not_false_eq_true] at hne
  obtain⟨⟨n01,n02,n03,n04,n05,n06,n07,n08⟩,⟨n12,n13,n14,n15,n16,n17,n18⟩,⟨n23,n24,n25,n26,n27,n28⟩,⟨n34,n35,n36,n37,n38⟩,⟨n45,n46,n47,n48⟩,⟨n56,n57,n58⟩,⟨n67,n68⟩,n78⟩:=hne
  simp[Apart, *]
 ·exact⟨.inl rfl,.inl rfl,.inl rfl,.inl rfl,.inl rfl,.inl rfl,.inr ⟨rfl,rfl⟩,.inr ⟨rfl,rfl⟩,.inl rfl,trivial⟩
 ·exact fun κ _=>trivial
 ·exact⟨.ptr rfl,.plain rfl,.slice rfl,.plain rfl,trivial⟩
 rintro⟨⟩ -
 skip
 refine N.go ?_
 refine N.loopR (α:=Option (List Ml×List By)) (fun o=>match o with
  | none=>True
  | some κ=>AirA W κ.2 κ.1 (sendA i on (mkA C P (encB k s b q st' ds t1 t2 wh wn x y a c d) i g) (A,lost) n).1∧∀ e,e∈F→e∈κ.2) (fun o=>match o with
  | none=>1
  | some κ=>0) (fun o=>match o with
  | none=>[(16,.int .i64 0)]
  | some κ=>[(16,.int .i64 1)]) (fun o=>match o with
  | none=>[]
  | some κ=>[(0,flC C n 1 6 4 (.slice (some ⟨5,0,some 0⟩) n cap) (sendA i on (mkA C P (encB k s b q st' ds t1 t2 wh wn x y a c d) i g) (A,lost) n).2),(6,airP κ.1),(7,memC W κ.2)]) none [(0,0),(1,1),(2,2),(3,3),(4,4),(5,5),(6,6),(7,7),(8,8)] trivial ?_ ?_
 ·repeat' (refine N.go ?_;first|exact N.true|refine N.obl (.plain (by rfl)) ?_|refine N.obl (.one (.ptr rfl)) ?_|refine N.obl (.one (.slice rfl)) ?_|refine N.obl (@ChunkReLe.mk _ _ _ ⟨.inr rfl⟩ id (nlr _) (nzj)) ?_|refine N.obl ⟨id,nlr _,(by first|(refine lt16 ?_ ?_ ?_ ?_ ?_ ?_ ?_ ?_ ?_ ?_ ?_ ?_ ?_ ?_ ?_ ?_<;>first|exact Re1.plain rfl|exact Re1.ptr rfl|exact Re1.slice rfl)|fail)⟩ ?_|refine N.obl ⟨id,nlr _,(by first|(refine lt15 ?_ ?_ ?_ ?_ ?_ ?_ ?_ ?_ ?_ ?_ ?_ ?_ ?_ ?_ ?_<;>first|exact Re1.plain rfl|exact Re1.ptr rfl|exact Re1.slice rfl)|fail)⟩ ?_|refine N.obl ⟨id,nlr _,qa8⟩ ?_|refine N.obl ⟨id,nlr _,qay⟩ ?_|fail)
 intro o ho
 cases o with
 | some κ=>
  repeat' (refine N.go ?_;first|refine N.forkNo (by decide) ?_|fail)
  refine N.go ?_
  refine N.endSame ?_
  refine N.some κ ⟨ho,?_⟩
  repeat' (refine N.go ?_;first|refine N.obl (.tuple trivial) ?_|refine N.obl ⟨⟨_,rfl,fun h=>h,nlr _,(by first|(refine lt16 ?_ ?_ ?_ ?_ ?_ ?_ ?_ ?_ ?_ ?_ ?_ ?_ ?_ ?_ ?_ ?_<;>first|exact Re1.plain rfl|exact Re1.ptr rfl|exact Re1.slice rfl)|fail)⟩,⟨_,rfl,fun h=>h,nlr _,nzj⟩,⟨_,rfl,fun h=>h,nlr _,nzj⟩,trivial⟩ ?_|refine N.obl trivial ?_|refine N.obl ⟨⟨.inl rfl,.inl rfl,.inl rfl,.inl rfl,.inl rfl,.inl rfl,.inr ⟨_,rfl,rfl⟩,.inr ⟨_,rfl,rfl⟩,.inl rfl,trivial⟩,trivial⟩ ?_|exact N.true|fail)
 | none=>
  repeat' (refine N.go ?_;first|with_reducible refine N.obl rfl ?_|refine N.idx 0 0 rfl (by decide) ?_|refine N.forkYes (by decide) ?_|fail)
  refine N.go ?_
  refine N.callAll (qys W F k s b q st' ds t1 t2 wh wn x y a c d hk hs hb hq hst hds ht1 ht2 hwh hwn hx hy ha hc hd hM 7 _ (by rfl)) fun v ms hR=>?_
  obtain⟨ee,hee,_,rfl,rfl⟩:=hR
  skip
  refine N.go ?_
  refine N.loopR (α:=Nat×List Ml×List By) (fun zz=>zz.1≤n∧AirA W zz.2.2 zz.2.1 (sendA i on (mkA C P (encB k s b q st' ds t1 t2 wh wn x y a c d) i g) (A,lost) zz.1).1∧(∀ e,e∈F→e∈zz.2.2)∧Src W zz.2.2 ee.s ee.bs) (fun zz=>n-zz.1) (fun zz=>[(31,.int .i64 (zz.1:Int))]) (fun zz=>[(0,flC C n 1 6 4 (.slice (some ⟨5,0,some 0⟩) n cap) (sendA i on (mkA C P (encB k s b q st' ds t1 t2 wh wn x y a c d) i g) (A,lost) zz.1).2),(6,airP zz.2.1),(7,memC W zz.2.2)]) (0,L,ee::F) [(0,0),(1,1),(2,2),(3,3),(4,4),(5,5),(6,6),(7,7),(8,8),(9,9)] ⟨Nat.zero_le _,hA.mono qqu,qqu,.own (List.mem_cons_self ..)⟩ ?_ ?_
  ·repeat' (refine N.go ?_;first|exact N.true|refine N.obl (.plain (by rfl)) ?_|refine N.obl (.one (.ptr rfl)) ?_|refine N.obl (.one (.slice rfl)) ?_|refine N.obl (@ChunkReLe.mk _ _ _ ⟨.inr rfl⟩ id (nlr _) (nzj)) ?_|refine N.obl ⟨id,nlr _,(by first|(refine lt16 ?_ ?_ ?_ ?_ ?_ ?_ ?_ ?_ ?_ ?_ ?_ ?_ ?_ ?_ ?_ ?_<;>first|exact Re1.plain rfl|exact Re1.ptr rfl|exact Re1.slice rfl)|fail)⟩ ?_|refine N.obl (.one .quo) ?_|refine N.obl (.tuple ⟨.quo,.plain rfl,trivial⟩) ?_|refine N.obl ⟨id,nlr _,(by first|(refine lt15 ?_ ?_ ?_ ?_ ?_ ?_ ?_ ?_ ?_ ?_ ?_ ?_ ?_ ?_ ?_<;>first|exact Re1.plain rfl|exact Re1.ptr rfl|exact Re1.slice rfl)|fail)⟩ ?_|refine N.obl ⟨id,nlr _,qa8⟩ ?_|refine N.obl ⟨id,nlr _,qay⟩ ?_|fail)
  rintro⟨j,L',F'⟩ ⟨hj,hA',hF',hsrc⟩
  by_cases hjn:j<n
  ·have ej:((j+1:Nat):Int)=IntKind.i64.wrap ((j:Int)+1):=by rw[i64s _ (by omega) (by omega)];omega
   repeat' (refine N.go ?_;first|refine N.forkYes (decide_eq_true (by omega)) ?_|fail)
   by_cases e:j=i
   ·have hS:sendA i on (mkA C P (encB k s b q st' ds t1 t2 wh wn x y a c d) i g) (A,lost) (j+1)=sendA i on (mkA C P (encB k s b q st' ds t1 t2 wh wn x y a c d) i g) (A,lost) j:=if_pos (.inl e)
    have hS2:(sendA i on (mkA C P (encB k s b q st' ds t1 t2 wh wn x y a c d) i g) (A,lost) (j+1)).2=(sendA i on (mkA C P (encB k s b q st' ds t1 t2 wh wn x y a c d) i g) (A,lost) j).2:=by rw[hS]
    repeat' (refine N.go ?_;first|with_reducible refine N.forkT ?_|refine N.forkYes (beq_iff_eq.2 (by omega)) ?_|fail)
    refine N.go ?_
    refine N.nextR (α:=Nat×List Ml×List By) (j+1,L',F') [(0,0),(1,1),(2,2),(3,3),(4,4),(5,5),(6,6),(7,7),(8,8),(9,9)] ⟨⟨hjn,by show AirA W F' L' (sendA i on (mkA C P (encB k s b q st' ds t1 t2 wh wn x y a c d) i g) (A,lost) (j+1)).1;rw[hS];exact hA',hF',hsrc⟩,by show n-(j+1)<n-j;omega⟩ ?_
    repeat' (refine N.go ?_;first|exact N.true|refine N.obl (.plain (by rfl)) ?_|refine N.obl (.one (.ptr rfl)) ?_|refine N.obl (.one (.slice rfl)) ?_|refine N.obl (@ChunkReLe.mk _ _ _ ⟨.inr rfl⟩ id (nlr _) (nzj)) ?_|refine N.obl ⟨id,nlr _,(by first|(refine lt16 ?_ ?_ ?_ ?_ ?_ ?_ ?_ ?_ ?_ ?_ ?_ ?_ ?_ ?_ ?_ ?_<;>first|exact Re1.plain rfl|exact Re1.ptr rfl|exact Re1.slice rfl)|fail)⟩ ?_|refine N.obl ⟨id,nlr _,(by first|(refine lt16 ?_ ?_ ?_ ?_ ?_ ?_ ?_ ?_ ?_ ?_ ?_ ?_ ?_ ?_ ?_ (qdu hS2)<;>first|exact Re1.plain rfl|exact Re1.ptr rfl|exact Re1.slice rfl)|fail)⟩ ?_|refine N.obl (qa2 (qaz ej) rfl) ?_|refine N.obl (.one .quo) ?_|refine N.obl (.tuple ⟨.quo,.plain rfl,trivial⟩) ?_|refine N.obl ⟨id,nlr _,(by first|(refine lt15 ?_ ?_ ?_ ?_ ?_ ?_ ?_ ?_ ?_ ?_ ?_ ?_ ?_ ?_ ?_<;>first|exact Re1.plain rfl|exact Re1.ptr rfl|exact Re1.slice rfl)|fail)⟩ ?_|refine N.obl ⟨id,nlr _,qa8⟩ ?_|refine N.obl ⟨id,nlr _,qay⟩ ?_|fail)
   by_cases eo:on j=false
   ·have hS:sendA i on (mkA C P (encB k s b q st' ds t1 t2 wh wn x y a c d) i g) (A,lost) (j+1)=sendA i on (mkA C P (encB k s b q st' ds t1 t2 wh wn x y a c d) i g) (A,lost) j:=if_pos (.inr eo)
    have hS2:(sendA i on (mkA C P (encB k s b q st' ds t1 t2 wh wn x y a c d) i g) (A,lost) (j+1)).2=(sendA i on (mkA C P (encB k s b q st' ds t1 t2 wh wn x y a c d) i g) (A,lost) j).2:=by rw[hS]
    repeat' (refine N.go ?_;first|with_reducible refine N.forkF ?_|refine N.forkNo (beq_eq_false_iff_ne.2 (by omega)) ?_|refine N.idx j 1 rfl hjn ?_|refine N.load _ (qgy hjn rfl rfl) ?_|refine N.forkYes (by rw[eo];rfl) ?_|fail)
    refine N.go ?_
    refine N.nextR (α:=Nat×List Ml×List By) (j+1,L',F') [(0,0),(1,1),(2,2),(3,3),(4,4),(5,5),(6,6),(7,7),(8,8),(9,9)] ⟨⟨hjn,by show AirA W F' L' (sendA i on (mkA C P (encB k s b q st' ds t1 t2 wh wn x y a c d) i g) (A,lost) (j+1)).1;rw[hS];exact hA',hF',hsrc⟩,by show n-(j+1)<n-j;omega⟩ ?_
    repeat' (refine N.go ?_;first|exact N.true|refine N.obl (.plain (by rfl)) ?_|refine N.obl (.one (.ptr rfl)) ?_|refine N.obl (.one (.slice rfl)) ?_|refine N.obl (@ChunkReLe.mk _ _ _ ⟨.inr rfl⟩ id (nlr _) (nzj)) ?_|refine N.obl ⟨id,nlr _,(by first|(refine lt16 ?_ ?_ ?_ ?_ ?_ ?_ ?_ ?_ ?_ ?_ ?_ ?_ ?_ ?_ ?_ ?_<;>first|exact Re1.plain rfl|exact Re1.ptr rfl|exact Re1.slice rfl)|fail)⟩ ?_|refine N.obl ⟨id,nlr _,(by first|(refine lt16 ?_ ?_ ?_ ?_ ?_ ?_ ?_ ?_ ?_ ?_ ?_ ?_ ?_ ?_ ?_ (qdu hS2)<;>first|exact Re1.plain rfl|exact Re1.ptr rfl|exact Re1.slice rfl)|fail)⟩ ?_|refine N.obl (qa2 (qaz ej) rfl) ?_|refine N.obl (.one .quo) ?_|refine N.obl (.tuple ⟨.quo,.plain rfl,trivial⟩) ?_|refine N.obl ⟨id,nlr _,(by first|(refine lt15 ?_ ?_ ?_ ?_ ?_ ?_ ?_ ?_ ?_ ?_ ?_ ?_ ?_ ?_ ?_<;>first|exact Re1.plain rfl|exact Re1.ptr rfl|exact Re1.slice rfl)|fail)⟩ ?_|refine N.obl ⟨id,nlr _,qa8⟩ ?_|refine N.obl ⟨id,nlr _,qay⟩ ?_|fail)
   have eo2:on j=true:=by cases h:on j<;>first|rfl|exact absurd h eo
   have hS:sendA i on (mkA C P (encB k s b q st' ds t1 t2 wh wn x y a c d) i g) (A,lost) (j+1)=putA (sendA i on (mkA C P (encB k s b q st' ds t1 t2 wh wn x y a c d) i g) (A,lost) j) (mkA C P (encB k s b q st' ds t1 t2 wh wn x y a c d) i g j):=if_neg (fun h=>h.elim e eo)
   have hlen:=hA'.len
   repeat' (refine N.go ?_;first|with_reducible refine N.forkF ?_|refine N.forkNo (beq_eq_false_iff_ne.2 (by omega)) ?_|refine N.idx j 1 rfl hjn ?_|refine N.load _ (qgy hjn rfl rfl) ?_|refine N.forkNo (by rw[eo2];rfl) ?_|refine N.call (qyf C n wc 1 2 3 P M tm st false false false i j _ (by rfl) (by rfl) (by rfl) hi hjn) ?_|fail)
   refine N.go ?_
   refine N.altP ?_
   refine N.go ?_
   refine N.plan [0,1,2,3,4,5,6,7,8,9,10,11,12,13,14] [(15,[16])] (by kernel_rfl) ?_
   repeat' (refine N.go ?_;first|refine N.call (qoj C n wc 1 2 3 P M tm st false false false j _ _ (by rfl) (by rfl) (by rfl) hjn hn.2 h5) ?_|fail)
   refine N.go ?_
   by_cases hroom:L'.length<512
   ·refine qa4 [6,7] _ (by show midB _ _ _ _=Bool.true;kernel_rfl) (fun h₂ hh=>cPutM W F' L' _ _ _ _ ee.s ee.bs 6 7 (by decide) h₂ ((hh 6 (by simp)).trans rfl) ((hh 7 (by simp)).trans rfl) hsrc (by rw[hee];exact qqv) hroom) fun v ms hR=>?_
    obtain⟨u2,F2,hmade,rfl,rfl⟩:=hR
    refine⟨by simp,?_⟩
    have hP:putA (sendA i on (mkA C P (encB k s b q st' ds t1 t2 wh wn x y a c d) i g) (A,lost) j) (mkA C P (encB k s b q st' ds t1 t2 wh wn x y a c d) i g j)=((sendA i on (mkA C P (encB k s b q st' ds t1 t2 wh wn x y a c d) i g) (A,lost) j).1++[mkA C P (encB k s b q st' ds t1 t2 wh wn x y a c d) i g j],(sendA i on (mkA C P (encB k s b q st' ds t1 t2 wh wn x y a c d) i g) (A,lost) j).2):=if_pos (by rw[←hlen];exact hroom)
    have hS2:(sendA i on (mkA C P (encB k s b q st' ds t1 t2 wh wn x y a c d) i g) (A,lost) (j+1)).2=(sendA i on (mkA C P (encB k s b q st' ds t1 t2 wh wn x y a c d) i g) (A,lost) j).2:=by rw[hS,hP]
    repeat' (refine N.go ?_;first|with_reducible refine N.obl (by decide) ?_|refine N.forkNo (by decide) ?_|fail)
    refine N.go ?_
    refine N.nextR (α:=Nat×List Ml×List By) (j+1,L'++[⟨(j:Int),u2,fiA C j (trA P i g j),trA P i g j,false⟩],F2) [(0,0),(1,1),(2,2),(3,3),(4,4),(5,5),(6,6),(7,7),(8,8),(9,9)] ⟨⟨hjn,by show AirA W F2 _ (sendA i on (mkA C P (encB k s b q st' ds t1 t2 wh wn x y a c d) i g) (A,lost) (j+1)).1;rw[hS,hP];exact(hA'.mono (qi6 hmade)).snoc ⟨rfl,rfl,rfl,rfl,by show Own F2 u2 (encB k s b q st' ds t1 t2 wh wn x y a c d);rw[←hee];exact qqt hmade,qqv⟩,fun e h=>qi6 hmade e (hF' e h),hsrc.more hmade.sub⟩,by show n-(j+1)<n-j;omega⟩ ?_
    repeat' (refine N.go ?_;first|exact N.true|refine N.obl (.plain (by rfl)) ?_|refine N.obl (.one (.ptr rfl)) ?_|refine N.obl (.one (.slice rfl)) ?_|refine N.obl (@ChunkReLe.mk _ _ _ ⟨.inr rfl⟩ id (nlr _) (nzj)) ?_|refine N.obl ⟨id,nlr _,(by first|(refine lt16 ?_ ?_ ?_ ?_ ?_ ?_ ?_ ?_ ?_ ?_ ?_ ?_ ?_ ?_ ?_ ?_<;>first|exact Re1.plain rfl|exact Re1.ptr rfl|exact Re1.slice rfl)|fail)⟩ ?_|refine N.obl ⟨id,nlr _,(by first|(refine lt16 ?_ ?_ ?_ ?_ ?_ ?_ ?_ ?_ ?_ ?_ ?_ ?_ ?_ ?_ ?_ (qdu hS2)<;>first|exact Re1.plain rfl|exact Re1.ptr rfl|exact Re1.slice rfl)|fail)⟩ ?_|refine N.obl (qa2 (qaz ej) rfl) ?_|refine N.obl (.one .quo) ?_|refine N.obl (.tuple ⟨.quo,.plain rfl,trivial⟩) ?_|refine N.obl ⟨id,nlr _,(by first|(refine lt15 ?_ ?_ ?_ ?_ ?_ ?_ ?_ ?_ ?_ ?_ ?_ ?_ ?_ ?_ ?_<;>first|exact Re1.plain rfl|exact Re1.ptr rfl|exact Re1.slice rfl)|fail)⟩ ?_|refine N.obl ⟨id,nlr _,qa8⟩ ?_|refine N.obl ⟨id,nlr _,qay⟩ ?_|fail)
   ·refine qa4 [6] _ (by show midB _ _ _ _=Bool.true;kernel_rfl) (fun h₂ hh=>qbn (qqs L' _ _ _ _ ee.s (by omega) 6 h₂ ((hh 6 (by simp)).trans rfl))) fun v ms hR=>?_
    obtain⟨rfl,rfl⟩:=hR
    refine⟨by simp,?_⟩
    have hl2:=qfg i on (mkA C P (encB k s b q st' ds t1 t2 wh wn x y a c d) i g) (A,lost) hl j
    have hP:putA (sendA i on (mkA C P (encB k s b q st' ds t1 t2 wh wn x y a c d) i g) (A,lost) j) (mkA C P (encB k s b q st' ds t1 t2 wh wn x y a c d) i g j)=((sendA i on (mkA C P (encB k s b q st' ds t1 t2 wh wn x y a c d) i g) (A,lost) j).1,min ((sendA i on (mkA C P (encB k s b q st' ds t1 t2 wh wn x y a c d) i g) (A,lost) j).2+1) 1000000):=if_neg (by rw[←hlen];exact hroom)
    have hS2:(sendA i on (mkA C P (encB k s b q st' ds t1 t2 wh wn x y a c d) i g) (A,lost) (j+1)).2=min (IntKind.i64.wrap ((sendA i on (mkA C P (encB k s b q st' ds t1 t2 wh wn x y a c d) i g) (A,lost) j).2+1)) 1000000:=by rw[hS,hP,i64s _ (by omega) (by omega)]
    repeat' (refine N.go ?_;first|with_reducible refine N.obl (by decide) ?_|refine N.forkYes (by decide) ?_|refine N.min2 ?_|fail)
    refine N.go ?_
    refine N.nextR (α:=Nat×List Ml×List By) (j+1,L',F') [(0,0),(1,1),(2,2),(3,3),(4,4),(5,5),(6,6),(7,7),(8,8),(9,9)] ⟨⟨hjn,by show AirA W F' L' (sendA i on (mkA C P (encB k s b q st' ds t1 t2 wh wn x y a c d) i g) (A,lost) (j+1)).1;rw[hS,hP];exact hA',hF',hsrc⟩,by show n-(j+1)<n-j;omega⟩ ?_
    repeat' (refine N.go ?_;first|exact N.true|refine N.obl (.plain (by rfl)) ?_|refine N.obl (.one (.ptr rfl)) ?_|refine N.obl (.one (.slice rfl)) ?_|refine N.obl (@ChunkReLe.mk _ _ _ ⟨.inr rfl⟩ id (nlr _) (nzj)) ?_|refine N.obl ⟨id,nlr _,(by first|(refine lt16 ?_ ?_ ?_ ?_ ?_ ?_ ?_ ?_ ?_ ?_ ?_ ?_ ?_ ?_ ?_ ?_<;>first|exact Re1.plain rfl|exact Re1.ptr rfl|exact Re1.slice rfl)|fail)⟩ ?_|refine N.obl ⟨id,nlr _,(by first|(refine lt16 ?_ ?_ ?_ ?_ ?_ ?_ ?_ ?_ ?_ ?_ ?_ ?_ ?_ ?_ ?_ (qdu hS2)<;>first|exact Re1.plain rfl|exact Re1.ptr rfl|exact Re1.slice rfl)|fail)⟩ ?_|refine N.obl (qa2 (qaz ej) rfl) ?_|refine N.obl (.one .quo) ?_|refine N.obl (.tuple ⟨.quo,.plain rfl,trivial⟩) ?_|refine N.obl ⟨id,nlr _,(by first|(refine lt15 ?_ ?_ ?_ ?_ ?_ ?_ ?_ ?_ ?_ ?_ ?_ ?_ ?_ ?_ ?_<;>first|exact Re1.plain rfl|exact Re1.ptr rfl|exact Re1.slice rfl)|fail)⟩ ?_|refine N.obl ⟨id,nlr _,qa8⟩ ?_|refine N.obl ⟨id,nlr _,qay⟩ ?_|fail)
  ·obtain rfl:j=n:=by omega
   repeat' (refine N.go ?_;first|refine N.forkNo (decide_eq_false (by omega)) ?_|fail)
   refine N.go ?_
   refine N.nextR (α:=Option (List Ml×List By)) (some (L',F')) [(0,0),(1,1),(2,2),(3,3),(4,4),(5,5),(6,6),(7,7),(8,8)] ⟨⟨hA',hF'⟩,by show 0<1;decide⟩ ?_
   repeat' (refine N.go ?_;first|exact N.true|refine N.obl (.plain (by rfl)) ?_|refine N.obl (.one (.ptr rfl)) ?_|refine N.obl (.one (.slice rfl)) ?_|refine N.obl (@ChunkReLe.mk _ _ _ ⟨.inr rfl⟩ id (nlr _) (nzj)) ?_|refine N.obl ⟨id,nlr _,(by first|(refine lt16 ?_ ?_ ?_ ?_ ?_ ?_ ?_ ?_ ?_ ?_ ?_ ?_ ?_ ?_ ?_ ?_<;>first|exact Re1.plain rfl|exact Re1.ptr rfl|exact Re1.slice rfl)|fail)⟩ ?_|refine N.obl ⟨id,nlr _,(by first|(refine lt15 ?_ ?_ ?_ ?_ ?_ ?_ ?_ ?_ ?_ ?_ ?_ ?_ ?_ ?_ ?_<;>first|exact Re1.plain rfl|exact Re1.ptr rfl|exact Re1.slice rfl)|fail)⟩ ?_|refine N.obl ⟨id,nlr _,qa8⟩ ?_|refine N.obl ⟨id,nlr _,qay⟩ ?_|fail)
abbrev md (a m:Int):Int:=IntKind.i64.wrap ((IntKind.u64.wrap a).tmod m)
theorem md_b (a m:Int) (h0:0<m) (h1:m≤9223372036854775807):0≤md a m∧md a m<m:=q3z a m h0 h1
abbrev cf6 (a b c d g f:Int):Nat→Int:=fun k=>match k with
 | 0=>1+md a 8
 | 1=>1+md b 6
 | 2=>md c 40
 | 3=>md d 10
 | 4=>1
 | 5=>10
 | 6=>50
 | 7=>30
 | 8=>1+md g 6
 | 9=>1+md f 8
 | _=>1000000000000
theorem qnc (a b c d g f:Int):CfOK (cf6 a b c d g f):=by
 have k0:=md_b a 8 (by decide) (by decide)
 have k1:=md_b b 6 (by decide) (by decide)
 have k2:=md_b c 40 (by decide) (by decide)
 have k3:=md_b d 10 (by decide) (by decide)
 have k4:=md_b g 6 (by decide) (by decide)
 have k5:=md_b f 8 (by decide) (by decide)
 refine⟨?_,?_,?_,?_,rfl,?_,rfl,?_,?_,?_,?_⟩<;>simp only[cf6]<;>omega
theorem qy2 (a b c d g f:Int)  (w:World):Calls Tryz.prog 8 #[.int .i64 a,.int .i64 b,.int .i64 c,.int .i64 d,.int .i64 g,.int .i64 f] w fun e w'=>e=.returned (cfV (cf6 a b c d g f))∧Below w.heap.size w w':=by
 have k0:=md_b a 8 (by decide) (by decide)
 have k1:=md_b b 6 (by decide) (by decide)
 have k4:=md_b g 6 (by decide) (by decide)
 have k5:=md_b f 8 (by decide) (by decide)
 refine qaf (G:=tys) w tysOK mixed Tryz.func8 (by rfl) (by first|rfl|(simp only[List.all_cons,List.all_nil,qaa,qab,qac];rfl)) (by first|exact qag _|exact qak _ _ _|rfl|(simp only[qap,List.all_cons,List.all_nil,qaa,qab,qac];rfl)) ?_
 repeat' (refine N.go ?_;first|with_reducible (first|refine N.obl (by decide) ?_|refine N.eq ?_|refine N.obl rfl ?_)|fail)
 all_goals
  simp only[cfV,cf6]
  rw[i64s (1+md a 8) (by omega) (by omega),i64s (1+md b 6) (by omega) (by omega),i64s (1+md g 6) (by omega) (by omega),i64s (1+md f 8) (by omega) (by omega)]
theorem qor (a b c d g f:Int) (h:Hp):qad Tryz.prog 8 [.int .i64 a,.int .i64 b,.int .i64 c,.int .i64 d,.int .i64 g,.int .i64 f] h (cfV (cf6 a b c d g f)) [] []:=qai rfl rfl (Tryz.call8 _) (qy2 a b c d g f)
abbrev rpV (v:Bool) (x y a b d:Int) (s:Value):Value:=.agg ⟨[.bool v,.int .i64 x,.int .i64 y,.int .i64 a,.int .i64 b,.int .i64 d,s]⟩
theorem qy3 (s:NSt) (hE:s.T.E=[]) (i:Nat) (h:Hp) (hi:h[i]?=some (some (ndP s))) :
  qad Tryz.prog 12 [.pointer (some ⟨i,0,some 0⟩)] h (rpV s.fv s.fx s.fy s.fa s.fb s.fd (.slice none 0 0)) [(i,ndP s)] []:=by
 refine qax (G:=tys) (fun _:Nat→Nat×Nat=>True) (ndH s) [⟨i,ndP s,ndP s,ndP s⟩] [] [.pointer (some ⟨0,0,some 0⟩)] tysOK mixed Tryz.func12 (by rfl) (Tryz.call12) ⟨hi,trivial⟩ ⟨⟨fun h=>⟨rfl,nlr _⟩,nlr _,nzj⟩,trivial⟩ (by simp[Apart]) ⟨.inr ⟨rfl,rfl⟩,trivial⟩ trivial ⟨.ptr rfl,trivial⟩ qat ?_
 intro g _
 repeat' (refine N.go ?_;first|with_reducible (first|refine N.obl rfl ?_|refine N.obl ⟨by kernel_rfl,by kernel_rfl⟩ ?_|refine N.alt ?_|refine N.forkF ?_)|refine N.call (qk8 _ _ _ _ _ _ _ 1 _ (by rfl)) ?_|refine N.call (cFiE _ _ _ _ _ _ _ 1 _ (by rfl)) ?_|refine N.call (cAll0 s.T hE 2 _ (by rfl)) ?_|fail)
 refine N.go ?_
 refine qd2 s g 0 1 2 3 4 [] qeh (fun i hi=>.inl (by simpa using hi)) (by rfl) rfl rfl (ndRe (D:=s.nd g) (f:=1) (t:=2) (b:=3) (m:=4) (f':=1) (t':=2) (b':=3) (m':=4) (by rfl) (by rfl) (by rfl) (by rfl)) (by rfl) rfl rfl re7 (by rfl) (by rfl) rfl rfl re2 (by rfl) rfl rfl re2 (by rfl) (fun k hk=>by cases hk) (fun k hk=>by cases hk) (qfa rfl) ?_
 refine N.obl (.plain rfl) ?_
 refine N.obl ⟨⟨_,rfl,fun h=>h,nlr _,nzj⟩,trivial⟩ ?_
 refine N.obl trivial ?_
 refine N.obl ⟨⟨.inr ⟨_,rfl,rfl⟩,trivial⟩,trivial⟩ ?_
 exact N.true
open Go Go.RowKit Sx
abbrev flO (W:World) (B:List By) (F:FS) (β:Nat×Nat):Hp:=[some (flC F.C F.n 2 7 5 (.slice (some ⟨6,0,some 0⟩) F.n β.2) F.lost),some (memC W B),some (wcc true F.C F.n β.1 3 4 F.tm F.st),some (ptP true F.n F.P),some (mvP true F.n F.M),some (onC (manyX ndX F.n F.g F.s) F.n F.on),some (prC β.2 (prF F.g F.n)),some (airP F.L)]
theorem qbe {i j:Nat} {c d c2 d2:Chunk} {W:World} {B:List By} {F:FS}:Opens [⟨i,c,flP F,d⟩,⟨j,c2,memC W B,d2⟩] (flOK F) (flO W B F):=by
 refine qi2 (flO W B F) [(0,0),(1,2),(2,3),(3,4),(4,5),(5,6),(6,7)] (fun l i hm=>?_) rfl (fun β=>rfl) (fun β hβ l dl hl=>?_) (fun β hβ k d' hk=>?_)
 ·simp only[List.mem_cons,Prod.mk.injEq,List.not_mem_nil,or_false] at hm
  rcases hm with ⟨rfl,rfl⟩|⟨rfl,rfl⟩|⟨rfl,rfl⟩|⟨rfl,rfl⟩|⟨rfl,rfl⟩|⟨rfl,rfl⟩|⟨rfl,rfl⟩<;>rfl
 ·match l,hl with
  | 0,hl=>
   obtain rfl:_=dl:=by simpa using hl
   exact⟨_,rfl,rfl,rfl,(by first|(refine lt16 ?_ ?_ ?_ ?_ ?_ ?_ ?_ ?_ ?_ ?_ ?_ ?_ ?_ ?_ ?_ ?_<;>first|exact Re1.plain rfl|exact Re1.ptr rfl|exact Re1.slice rfl)|fail)⟩
  | 1,hl=>
   obtain rfl:_=dl:=by simpa using hl
   exact⟨_,rfl,rfl,rfl,(by first|(refine lt15 ?_ ?_ ?_ ?_ ?_ ?_ ?_ ?_ ?_ ?_ ?_ ?_ ?_ ?_ ?_<;>first|exact Re1.plain rfl|exact Re1.ptr rfl|exact Re1.slice rfl)|fail)⟩
  | 2,hl=>
   obtain rfl:_=dl:=by simpa using hl
   exact⟨_,rfl,rfl,rfl,qa8⟩
  | 3,hl=>
   obtain rfl:_=dl:=by simpa using hl
   exact⟨_,rfl,rfl,rfl,qay⟩
  | 4,hl=>
   obtain rfl:_=dl:=by simpa using hl
   exact⟨_,rfl,rfl,rfl,(qdm fun _ _=>rfl).re⟩
  | 5,hl=>
   obtain rfl:_=dl:=by simpa using hl
   exact⟨_,rfl,rfl,rfl,pr_ren.re⟩
  | 6,hl=>
   obtain rfl:_=dl:=by simpa using hl
   exact⟨_,rfl,rfl,rfl,nzj⟩
  | l+7,hl=>simp at hl
 ·match k,hk with
  | 0,_=>exact .inr ⟨0,rfl,_,rfl⟩
  | 1,_=>exact .inl rfl
  | 2,_=>exact .inr ⟨1,rfl,_,rfl⟩
  | 3,_=>exact .inr ⟨2,rfl,_,rfl⟩
  | 4,_=>exact .inr ⟨3,rfl,_,rfl⟩
  | 5,_=>exact .inr ⟨4,rfl,_,rfl⟩
  | 6,_=>exact .inr ⟨5,rfl,_,rfl⟩
  | 7,_=>exact .inr ⟨6,rfl,_,rfl⟩
  | k+8,hk=>simp at hk
def tickS (s:NSt) (now:Int):NSt:=if now<s.tx then {s with bl:=s.bn} else {s with bl:=s.bn-1,seq:=s.seq+1,tx:=now+s.te}
structure TickOK (s:NSt):Prop where
 E:s.T.E=[]
 te:0≤s.te∧s.te≤1000000
 bn:0<s.bn∧s.bn<1000
 seq:0≤s.seq∧s.seq<65535
 boot:0≤s.boot∧s.boot≤65535
theorem qy4 (n m:Nat) (g:Nat→Nat×Nat) (s:Nat→NSt) (hm:m<n) (ok:TickOK (s m)) (now fine:Int) (ht:0≤now∧now≤1000000) (hd:now<(s m).tx) (i k:Nat) {c:Nat} {ps:List (Nat×Nat×Value)} (h:Hp) (hi:h[i]?=some (some (@Chunk.mk (manyX ndX n g s) true c ps))) (hk:h[k]?=some none) :
  CallAll Tryz.prog 57 [realP (g m),.int .i64 now,.int .i64 fine] h fun v ms=>v=.slice none 0 0∧ms=[(i,@Chunk.mk (manyX ndX n g (upd s m (tickS (s m) now))) true c ps)]:=by
 have hkl:=(List.getElem?_eq_some_iff.1 hk).1
 have key:=q4x (s m) ok.E now fine ht hd k ((h.set i (some (@Chunk.mk (wandX (fun a=>manyX ndX n g (upd s m a)) ndX (g m)) true c ps))).set k (some (@Chunk.mk (ndX (s m)) true 0 []))) (List.getElem?_set_self (by simpa using hkl))
 rw[←qco s m] at hi
 refine qdg (vs':=[.pointer (some ⟨k,0,some 0⟩),.int .i64 now,.int .i64 fine]) (Y:=fun a=>manyX ndX n g (upd s m a)) (Z:=ndX) (q:=g m) (a:=s m) i k hi hk (qdh ndX g s hm (s m) rfl) qdt ⟨.ptr,.same _,.same _,trivial⟩ (qbn key) fun v ms hR=>?_
 obtain⟨rfl,rfl⟩:=hR
 refine⟨tickS (s m) now,[],?_,(fun m hm=>by cases hm),fun r r' _=>rfl,rfl,rfl⟩
 show _=_
 unfold tickS
 rw[if_pos hd]
 show List.set _ _ _=_
 rw[List.set_set]
 rfl
theorem qy5 (n m:Nat) (g:Nat→Nat×Nat) (s:Nat→NSt) (hm:m<n) (ok:TickOK (s m)) (hv:(s m).fv=true) (now fine:Int) (ht:0≤now∧now≤1000000) (hd:¬ now<(s m).tx) (i k K:Nat) (hkK:k≠K) {c:Nat} {ps:List (Nat×Nat×Value)} (h:Hp) (hi:h[i]?=some (some (@Chunk.mk (manyX ndX n g s) true c ps))) (hk:h[k]?=some none) (hK:h[K]?=some none) :
  CallAll Tryz.prog 57 [realP (g m),.int .i64 now,.int .i64 fine] h fun v ms=>∃ κ:Nat,1≤κ∧v=.slice (some ⟨K,0,some 0⟩) 1 κ∧ms=[(i,@Chunk.mk (manyX ndX n g (upd s m (tickS (s m) now))) true c ps),(K,outC (outV 5 (s m).id (s m).boot (s m).seq now 0 0 0 0 0 (s m).fx (s m).fy (s m).fa (s m).fb (s m).fd fine))]:=by
 have hkl:=(List.getElem?_eq_some_iff.1 hk).1
 have hiK:i≠K:=fun e=>by rw[e,hK] at hi;cases hi
 have key:=q4y (s m) ok.E hv now fine ht hd ok.te ok.bn ok.seq ok.boot k K ((h.set i (some (@Chunk.mk (wandX (fun a=>manyX ndX n g (upd s m a)) ndX (g m)) true c ps))).set k (some (@Chunk.mk (ndX (s m)) true 0 []))) (List.getElem?_set_self (by simpa using hkl)) (by rw[List.getElem?_set_ne hkK,List.getElem?_set_ne hiK];exact hK)
 rw[←qco s m] at hi
 refine qdg (vs':=[.pointer (some ⟨k,0,some 0⟩),.int .i64 now,.int .i64 fine]) (Y:=fun a=>manyX ndX n g (upd s m a)) (Z:=ndX) (q:=g m) (a:=s m) i k hi hk (qdh ndX g s hm (s m) rfl) qdt ⟨.ptr,.same _,.same _,trivial⟩ key fun v ms hR=>?_
 obtain⟨κ,hκ,rfl,rfl⟩:=hR
 refine⟨tickS (s m) now,[(K,outC (outV 5 (s m).id (s m).boot (s m).seq now 0 0 0 0 0 (s m).fx (s m).fy (s m).fa (s m).fb (s m).fd fine))],?_,(fun x hx=>?_),fun r r' hr=>?_,κ,hκ,rfl,rfl⟩
 ·unfold tickS
  rw[if_neg hd]
  show List.set (List.set _ _ _) _ _=List.set (List.set _ _ _) _ _
  rw[List.set_set]
 ·obtain rfl:=List.mem_singleton.1 hx
  refine⟨Ne.symm hiK,Ne.symm hkK,fun l hl r r' _=>?_⟩
  exact lt16 (p:=fun j=>den1 r (Chunk.f (outC (outV 5 (s m).id (s m).boot (s m).seq now 0 0 0 0 0 (s m).fx (s m).fy (s m).fa (s m).fb (s m).fd fine)) j)=den1 r' (Chunk.f (outC (outV 5 (s m).id (s m).boot (s m).seq now 0 0 0 0 0 (s m).fx (s m).fy (s m).fa (s m).fb (s m).fd fine)) j)) rfl rfl rfl rfl rfl rfl rfl rfl rfl rfl rfl rfl rfl rfl rfl rfl l hl
 ·simp[den,den2,den1,den0,denA,hr K (Ne.symm hkK)]
theorem qy6 (n m:Nat) (g:Nat→Nat×Nat) (s:Nat→NSt) (hm:m<n) (ok:TickOK (s m)) (hv:(s m).fv=false) (now fine:Int) (ht:0≤now∧now≤1000000) (hd:¬ now<(s m).tx) (i k K:Nat) (hkK:k≠K) {c:Nat} {ps:List (Nat×Nat×Value)} (h:Hp) (hi:h[i]?=some (some (@Chunk.mk (manyX ndX n g s) true c ps))) (hk:h[k]?=some none) (hK:h[K]?=some none) :
  CallAll Tryz.prog 57 [realP (g m),.int .i64 now,.int .i64 fine] h fun v ms=>∃ κ:Nat,1≤κ∧v=.slice (some ⟨K,0,some 0⟩) 1 κ∧ms=[(i,@Chunk.mk (manyX ndX n g (upd s m (tickS (s m) now))) true c ps),(K,outC (outV 1 (s m).id (s m).boot (s m).seq now 0 0 0 0 0 0 0 0 0 0 fine))]:=by
 have hkl:=(List.getElem?_eq_some_iff.1 hk).1
 have hiK:i≠K:=fun e=>by rw[e,hK] at hi;cases hi
 have key:=q4z (s m) ok.E hv now fine ht hd ok.te ok.bn ok.seq ok.boot k K ((h.set i (some (@Chunk.mk (wandX (fun a=>manyX ndX n g (upd s m a)) ndX (g m)) true c ps))).set k (some (@Chunk.mk (ndX (s m)) true 0 []))) (List.getElem?_set_self (by simpa using hkl)) (by rw[List.getElem?_set_ne hkK,List.getElem?_set_ne hiK];exact hK)
 rw[←qco s m] at hi
 refine qdg (vs':=[.pointer (some ⟨k,0,some 0⟩),.int .i64 now,.int .i64 fine]) (Y:=fun a=>manyX ndX n g (upd s m a)) (Z:=ndX) (q:=g m) (a:=s m) i k hi hk (qdh ndX g s hm (s m) rfl) qdt ⟨.ptr,.same _,.same _,trivial⟩ key fun v ms hR=>?_
 obtain⟨κ,hκ,rfl,rfl⟩:=hR
 refine⟨tickS (s m) now,[(K,outC (outV 1 (s m).id (s m).boot (s m).seq now 0 0 0 0 0 0 0 0 0 0 fine))],?_,(fun x hx=>?_),fun r r' hr=>?_,κ,hκ,rfl,rfl⟩
 ·unfold tickS
  rw[if_neg hd]
  show List.set (List.set _ _ _) _ _=List.set (List.set _ _ _) _ _
  rw[List.set_set]
 ·obtain rfl:=List.mem_singleton.1 hx
  refine⟨Ne.symm hiK,Ne.symm hkK,fun l hl r r' _=>?_⟩
  exact lt16 (p:=fun j=>den1 r (Chunk.f (outC (outV 1 (s m).id (s m).boot (s m).seq now 0 0 0 0 0 0 0 0 0 0 fine)) j)=den1 r' (Chunk.f (outC (outV 1 (s m).id (s m).boot (s m).seq now 0 0 0 0 0 0 0 0 0 0 fine)) j)) rfl rfl rfl rfl rfl rfl rfl rfl rfl rfl rfl rfl rfl rfl rfl rfl l hl
 ·simp[den,den2,den1,den0,denA,hr K (Ne.symm hkK)]
structure NdOK (s:NSt):Prop where
 tick:TickOK s
 id:0≤s.id∧s.id<64
 may:s.fv=true→mayP s.fx s.fy s.fa s.fb s.fd
def tickB (s:NSt) (now:Int):Option (List Int):=if now<s.tx then none else some (if s.fv then encB 5 s.id s.boot s.seq now 0 0 0 0 0 s.fx s.fy s.fa s.fb s.fd else encB 1 s.id s.boot s.seq now 0 0 0 0 0 0 0 0 0 0)
def tellA (on:Nat→Bool) (n:Nat) (mk:List Int→Nat→Am) (j:Nat) (z:List Am×Int):Option (List Int)→List Am×Int
 | none=>z
 | some bs=>sendA j on (mk bs) z n
def tickA (C P:Nat→Int) (n:Nat) (on:Nat→Bool) (now:Nat→Int) (g:Int) (z:(Nat→NSt)×(List Am×Int)):Nat→(Nat→NSt)×(List Am×Int)
 | 0=>z
 | j+1=>if on j=true then (upd (tickA C P n on now g z j).1 j (tickS ((tickA C P n on now g z j).1 j) (now j)),tellA on n (fun bs=>mkA C P bs j g) j (tickA C P n on now g z j).2 (tickB ((tickA C P n on now g z j).1 j) (now j))) else tickA C P n on now g z j
theorem qgo (C P:Nat→Int) (n:Nat) (on:Nat→Bool) (now:Nat→Int) (g:Int) (z:(Nat→NSt)×(List Am×Int)) (k:Nat):∀ j,j≤k→(tickA C P n on now g z j).1 k=z.1 k
 | 0,_=>rfl
 | j+1,h=>by
  unfold tickA
  split
  ·show upd _ j _ k=_
   rw[qbz _ _ (by omega)]
   exact qgo C P n on now g z k j (by omega)
  ·exact qgo C P n on now g z k j (by omega)
theorem qha (C P:Nat→Int) (n:Nat) (on:Nat→Bool) (now:Nat→Int) (g:Int) (z:(Nat→NSt)×(List Am×Int)) (h:0≤z.2.2∧z.2.2≤1000000):∀ j,0≤(tickA C P n on now g z j).2.2∧(tickA C P n on now g z j).2.2≤1000000
 | 0=>h
 | j+1=>by
  have ih:=qha C P n on now g z h j
  unfold tickA
  split
  ·show 0≤(tellA _ _ _ _ _ _).2∧(tellA _ _ _ _ _ _).2≤1000000
   unfold tellA
   split
   ·exact ih
   ·exact qfg _ _ _ _ ih _
  ·exact ih
theorem qy7 (i g:Int) (i0:Nat) (h:Hp) (c:Chunk) (h0:h[i0]?=some (some c)):qad Tryz.prog 56 [.pointer (some ⟨i0,0,some 0⟩),.int .i64 i,.slice none 0 0,.int .i64 g] h (.tuple #[]) [] [i0]:=by
 refine qar (G:=tys) [⟨i0,c,(@Chunk.mk Ext.none false 0 []),(@Chunk.mk Ext.none false 0 [])⟩] [] [.pointer (some ⟨0,0,some 0⟩),.int .i64 i,.slice none 0 0,.int .i64 g] tysOK mixed Tryz.func56 (by rfl) (Tryz.call56) ⟨h0,trivial⟩ ⟨⟨fun h=>(by cases h),Nat.zero_le _,nzj⟩,trivial⟩ (by simp[Apart]) trivial ⟨.ptr rfl,.plain rfl,.plain rfl,.plain rfl,trivial⟩ ?_
 skip
 refine N.go ?_
 refine N.roll 1 ?_
 repeat' (refine N.go ?_;first|refine N.forkNo (by decide) ?_|exact N.true|refine N.obl trivial ?_|refine N.obl (.tuple trivial) ?_|fail)
theorem rd_on {x:Ext} {n p:Nat} {on:Nat→Bool} (h:p<n):Reads (onC x n on) p false 1 (.bool (on p)):=⟨h,rfl,qi4 h⟩
theorem qas {n:Int} (h : -70368744177664≤n∧n≤70368744177664):Fi n:=⟨by omega,by omega⟩
theorem qbk (F:FS):(flP F).x≠Ext.none:=fun e=>by
 have h1:∀ p S w,(flP F).x.inv p S w→S p.1:=qah
 rw[e] at h1
 exact(h1 (0,0) (fun _=>False) default fun _ h=>h).elim
abbrev tickF (F:FS) (L:List Ml) (z:(Nat→NSt)×(List Am×Int)):FS:=⟨F.C,F.n,F.P,fun _=>false,F.tm+1,1,L,F.g,z.1,F.on,z.2.2⟩
abbrev nowA (F:FS) (j:Nat):Int:=locN (offN j 7 (F.C 4)) (F.tm+1)
abbrev tickZ (F:FS) (A:List Am) (j:Nat):(Nat→NSt)×(List Am×Int):=tickA F.C F.P F.n F.on (nowA F) ((F.tm+1)*16777216+min (0+1) 16777215) (F.s,(A,F.lost)) j
theorem qqw (W:World) (B:List By) (F:FS) (hn:1≤F.n∧F.n≤64) (h4:0≤F.C 4∧F.C 4≤100) (h5:0≤F.C 5∧F.C 5≤1000) (ht:0≤F.tm∧F.tm<750000) (hl:0≤F.lost∧F.lost≤1000000) (A:List Am) (hA:AirA W B F.L A) (hN:∀ m,m<F.n→NdOK (F.s m)) (i j:Nat) (hij:i≠j) (h:Hp) (hi:h[i]?=some (some (flP F))) (hj:h[j]?=some (some (memC W B))) :
  CallAll Tryz.prog 27 [.pointer (some ⟨i,0,some 0⟩)] h fun v ms=>∃ L' B',AirA W B' L' (tickZ F A F.n).2.1∧(∀ e,e∈B→e∈B')∧v=.int .i64 0∧ms=[(i,flP (tickF F L' (tickZ F A F.n))),(j,memC W B')]:=by
 have key:=qaj (G:=tys) (h:=h) (vs:=[.pointer (some ⟨i,0,some 0⟩)]) (flOK F) (flO W B F) (α:=List Ml×List By) (fun κ=>AirA W κ.2 κ.1 (tickZ F A F.n).2.1∧∀ e,e∈B→e∈κ.2) (fun κ=>.int .i64 0) [⟨i,flP F,flP F,flP F⟩,⟨j,memC W B,memC W B,memC W B⟩] (fun κ=>[flP (tickF F κ.1 (tickZ F A F.n)),memC W κ.2]) (fun κ=>[]) [.pointer (some ⟨0,0,some 0⟩)] tysOK mixed Tryz.func27 (by rfl) (Tryz.call27) ⟨hi,hj,trivial⟩ ⟨⟨fun h=>⟨rfl,nlr _⟩,nlr _,nzj⟩,⟨fun h=>⟨rfl,nlr _⟩,nlr _,nzj⟩,trivial⟩ (fun κ _=>⟨⟨fun h=>⟨rfl,nlr _⟩,nlr _,nzj⟩,⟨fun h=>⟨rfl,nlr _⟩,nlr _,nzj⟩,trivial⟩) (by simp[Apart,hij]) ⟨.inr ⟨rfl,rfl⟩,.inr ⟨rfl,rfl⟩,trivial⟩ (fun κ _=>trivial) ⟨.ptr rfl,trivial⟩ qbe ?_
 ·refine qae key fun v ms hR=>?_
  obtain⟨κ,hκ,rfl,rfl⟩:=hR
  exact⟨κ.1,κ.2,hκ.1,hκ.2,rfl,rfl⟩
 intro β hβ
 repeat' (refine N.go ?_;first|refine N.forkNo (by decide) ?_|refine N.call (q25 F.C F.n β.1 2 3 4 8 F.P F.M F.tm F.st true true _ (by rfl) (by rfl) (by rfl) (by rfl) (by decide) (by decide) hn ht) ?_|refine N.call (cStep F.C F.n β.1 2 3 8 F.P _ (F.tm+1) 0 true true _ (by rfl) (by rfl) (by rfl) (by decide) (by decide) (by omega) (by decide)) ?_|fail)
 refine N.go ?_
 refine N.loopR (α:=Nat×List Ml×List By) (fun z=>z.1≤F.n∧AirA W z.2.2 z.2.1 (tickZ F A z.1).2.1∧∀ e,e∈B→e∈z.2.2) (fun z=>F.n-z.1) (fun z=>[(22,.int .i64 (z.1:Int))]) (fun z=>[(0,flC F.C F.n 2 7 5 (.slice (some ⟨6,0,some 0⟩) F.n β.2) (tickZ F A z.1).2.2),(1,memC W z.2.2),(5,onC (manyX ndX F.n F.g (tickZ F A z.1).1) F.n F.on),(7,airP z.2.1)]) (0,F.L,B) [(0,0),(1,1),(2,2),(3,3),(4,4),(5,5),(6,6),(7,7),(8,8)] ⟨Nat.zero_le _,hA,fun _ h=>h⟩ ?_ ?_
 ·repeat' (refine N.go ?_;first|exact N.true|refine N.obl (.plain (by rfl)) ?_|refine N.obl (.one (.ptr rfl)) ?_|refine N.obl (.one (.slice rfl)) ?_|refine N.obl (@ChunkReLe.mk _ _ _ ⟨.inr rfl⟩ id (nlr _) (nzj)) ?_|refine N.obl ⟨id,nlr _,(by first|(refine lt16 ?_ ?_ ?_ ?_ ?_ ?_ ?_ ?_ ?_ ?_ ?_ ?_ ?_ ?_ ?_ ?_<;>first|exact Re1.plain rfl|exact Re1.ptr rfl|exact Re1.slice rfl)|fail)⟩ ?_|refine N.obl ⟨id,nlr _,(by first|(refine lt15 ?_ ?_ ?_ ?_ ?_ ?_ ?_ ?_ ?_ ?_ ?_ ?_ ?_ ?_ ?_<;>first|exact Re1.plain rfl|exact Re1.ptr rfl|exact Re1.slice rfl)|fail)⟩ ?_|refine N.obl ⟨id,nlr _,qa8⟩ ?_|refine N.obl ⟨id,nlr _,qay⟩ ?_|refine N.obl pr_ren ?_|refine N.obl (qdm fun _ _=>rfl) ?_|fail)
 rintro⟨m,L',B'⟩ ⟨hm',hA',hM'⟩
 have hm':m≤F.n:=hm'
 by_cases hm:m<F.n
 ·have ej:((m+1:Nat):Int)=IntKind.i64.wrap ((m:Int)+1):=by rw[i64s _ (by omega) (by omega)];omega
  by_cases eo:F.on m=false
  ·have hS:tickZ F A (m+1)=tickZ F A m:=if_neg (by rw[eo];exact Bool.false_ne_true)
   have hS1:(tickZ F A (m+1)).1=(tickZ F A m).1:=by rw[hS]
   have hS2:(tickZ F A (m+1)).2.2=(tickZ F A m).2.2:=by rw[hS]
   repeat' (refine N.go ?_;first|refine N.forkYes (decide_eq_true (by omega)) ?_|refine N.idx m 1 rfl hm ?_|refine N.load _ (rd_pr hm hβ.2 rfl) ?_|refine N.load _ (rd_on hm) ?_|refine N.forkNo eo ?_|fail)
   refine N.go ?_
   refine N.nextR (α:=Nat×List Ml×List By) (m+1,L',B') [(0,0),(1,1),(2,2),(3,3),(4,4),(5,5),(6,6),(7,7),(8,8)] ⟨⟨hm,by show AirA W _ _ (tickZ F A (m+1)).2.1;rw[hS];exact hA',hM'⟩,by show F.n-(m+1)<F.n-m;omega⟩ ?_
   repeat' (refine N.go ?_;first|exact N.true|refine N.obl (.plain (by rfl)) ?_|refine N.obl (.one (.ptr rfl)) ?_|refine N.obl (.one (.slice rfl)) ?_|refine N.obl (@ChunkReLe.mk _ _ _ ⟨.inr rfl⟩ id (nlr _) (nzj)) ?_|refine N.obl ⟨id,nlr _,(by first|(refine lt16 ?_ ?_ ?_ ?_ ?_ ?_ ?_ ?_ ?_ ?_ ?_ ?_ ?_ ?_ ?_ (qdu hS2)<;>first|exact Re1.plain rfl|exact Re1.ptr rfl|exact Re1.slice rfl)|fail)⟩ ?_|refine N.obl (qa2 (qaz ej) rfl) ?_|refine N.obl ⟨id,nlr _,(by first|(refine lt15 ?_ ?_ ?_ ?_ ?_ ?_ ?_ ?_ ?_ ?_ ?_ ?_ ?_ ?_ ?_<;>first|exact Re1.plain rfl|exact Re1.ptr rfl|exact Re1.slice rfl)|fail)⟩ ?_|refine N.obl ⟨id,nlr _,qa8⟩ ?_|refine N.obl ⟨id,nlr _,qay⟩ ?_|refine N.obl pr_ren ?_|refine N.obl (by rw[hS1];exact qdm fun _ _=>rfl) ?_|fail)
  have eo2:F.on m=true:=by cases h:F.on m<;>first|rfl|exact absurd h eo
  have hsm:(tickZ F A m).1 m=F.s m:=qgo _ _ _ _ _ _ _ m m (nlr _)
  have ok:=hN m hm
  have hS:tickZ F A (m+1)=(upd (tickZ F A m).1 m (tickS ((tickZ F A m).1 m) (nowA F m)),tellA F.on F.n (fun bs=>mkA F.C F.P bs m ((F.tm+1)*16777216+min (0+1) 16777215)) m (tickZ F A m).2 (tickB ((tickZ F A m).1 m) (nowA F m))):=if_pos eo2
  have hnow:0≤nowA F m∧nowA F m≤1000000:=by unfold nowA locN;omega
  repeat' (refine N.go ?_;first|refine N.forkYes (decide_eq_true (by omega)) ?_|refine N.idx m 1 rfl hm ?_|refine N.load _ (rd_pr hm hβ.2 rfl) ?_|refine N.load _ (rd_on hm) ?_|refine N.forkYes eo2 ?_|fail)
  refine N.go ?_
  refine N.altP ?_
  refine N.go ?_
  refine N.plan [0,1,2,3,4,5,6,7,8,9,10,11,12,13,14,15,17] [(16,[]),(18,[])] (by kernel_rfl) ?_
  repeat' (refine N.go ?_;first|refine N.call (cNowY F.C F.n β.1 2 3 8 F.P _ (F.tm+1) _ true true true m _ (by rfl) (by rfl) (by rfl) hm hn.2 h4) ?_|refine N.call (qoj F.C F.n β.1 2 3 8 F.P _ (F.tm+1) _ true true true m _ _ (by rfl) (by rfl) (by rfl) hm hn.2 h5) ?_|fail)
  refine N.go ?_
  by_cases hd:nowA F m<(F.s m).tx
  ·refine qa4 [5,18] _ (by show midB _ _ _ _=Bool.true;kernel_rfl) (fun h₂ hh=>qy4 F.n m F.g (tickZ F A m).1 hm (by rw[hsm];exact ok.tick) (nowA F m) _ hnow (by rw[hsm];exact hd) 5 18 h₂ ((hh 5 (by simp)).trans rfl) ((hh 18 (by simp)).trans rfl)) fun v ms hR=>?_
   obtain⟨rfl,rfl⟩:=hR
   refine⟨by simp,?_⟩
   have hS':tickZ F A (m+1)=(upd (tickZ F A m).1 m (tickS ((tickZ F A m).1 m) (nowA F m)),(tickZ F A m).2):=by
    rw[hS,hsm]
    unfold tickB
    rw[if_pos hd]
    rfl
   have hS1:(tickZ F A (m+1)).1=upd (tickZ F A m).1 m (tickS ((tickZ F A m).1 m) (nowA F m)):=by rw[hS']
   have hS2:(tickZ F A (m+1)).2.2=(tickZ F A m).2.2:=by rw[hS']
   skip
   refine N.go ?_
   refine qa4 [0] _ (by show midB _ _ _ _=Bool.true;kernel_rfl) (fun h₂ hh=>qbn (qy7 _ _ 0 h₂ _ ((hh 0 (by simp)).trans rfl))) fun v ms hR=>?_
   obtain⟨rfl,rfl⟩:=hR
   refine⟨by simp,?_⟩
   repeat' (refine N.go ?_;first|with_reducible refine N.obl (by decide) ?_|fail)
   refine N.go ?_
   refine N.nextR (α:=Nat×List Ml×List By) (m+1,L',B') [(0,0),(1,1),(2,2),(3,3),(4,4),(5,5),(6,6),(7,7),(8,8)] ⟨⟨hm,by show AirA W _ _ (tickZ F A (m+1)).2.1;rw[hS'];exact hA',hM'⟩,by show F.n-(m+1)<F.n-m;omega⟩ ?_
   repeat' (refine N.go ?_;first|exact N.true|refine N.obl (.plain (by rfl)) ?_|refine N.obl (.one (.ptr rfl)) ?_|refine N.obl (.one (.slice rfl)) ?_|refine N.obl (@ChunkReLe.mk _ _ _ ⟨.inr rfl⟩ id (nlr _) (nzj)) ?_|refine N.obl ⟨id,nlr _,(by first|(refine lt16 ?_ ?_ ?_ ?_ ?_ ?_ ?_ ?_ ?_ ?_ ?_ ?_ ?_ ?_ ?_ (qdu hS2)<;>first|exact Re1.plain rfl|exact Re1.ptr rfl|exact Re1.slice rfl)|fail)⟩ ?_|refine N.obl (qa2 (qaz ej) rfl) ?_|refine N.obl ⟨id,nlr _,(by first|(refine lt15 ?_ ?_ ?_ ?_ ?_ ?_ ?_ ?_ ?_ ?_ ?_ ?_ ?_ ?_ ?_<;>first|exact Re1.plain rfl|exact Re1.ptr rfl|exact Re1.slice rfl)|fail)⟩ ?_|refine N.obl ⟨id,nlr _,qa8⟩ ?_|refine N.obl ⟨id,nlr _,qay⟩ ?_|refine N.obl pr_ren ?_|refine N.obl (by rw[hS1];exact qdm fun _ _=>rfl) ?_|fail)
  ·have hlost:=qha F.C F.P F.n F.on (nowA F) ((F.tm+1)*16777216+min (0+1) 16777215) (F.s,(A,F.lost)) hl m
   by_cases hv:(F.s m).fv=true
   ·refine qa4 [5,18,17] _ (by show midB _ _ _ _=Bool.true;kernel_rfl) (fun h₂ hh=>qy5 F.n m F.g (tickZ F A m).1 hm (by rw[hsm];exact ok.tick) (by rw[hsm];exact hv) (nowA F m) _ hnow (by rw[hsm];exact hd) 5 18 17 (by decide) h₂ ((hh 5 (by simp)).trans rfl) ((hh 18 (by simp)).trans rfl) ((hh 17 (by simp)).trans rfl)) fun v ms hR=>?_
    obtain⟨κ,hκ,rfl,rfl⟩:=hR
    refine⟨by simp,?_⟩
    have hd':¬ nowA F m<((tickZ F A m).1 m).tx:=by rw[hsm];exact hd
    have hv':((tickZ F A m).1 m).fv=true:=by rw[hsm];exact hv
    have hS':tickZ F A (m+1)=(upd (tickZ F A m).1 m (tickS ((tickZ F A m).1 m) (nowA F m)),sendA m F.on (mkA F.C F.P (encB 5 ((tickZ F A m).1 m).id ((tickZ F A m).1 m).boot ((tickZ F A m).1 m).seq (nowA F m) 0 0 0 0 0 ((tickZ F A m).1 m).fx ((tickZ F A m).1 m).fy ((tickZ F A m).1 m).fa ((tickZ F A m).1 m).fb ((tickZ F A m).1 m).fd) m ((F.tm+1)*16777216+min (0+1) 16777215)) (tickZ F A m).2 F.n):=by
     rw[hS]
     unfold tickB
     rw[if_neg hd',hv']
     rfl
    have hS1:(tickZ F A (m+1)).1=upd (tickZ F A m).1 m (tickS ((tickZ F A m).1 m) (nowA F m)):=by rw[hS']
    have hS2:(tickZ F A (m+1)).2.2=(sendA m F.on (mkA F.C F.P (encB 5 ((tickZ F A m).1 m).id ((tickZ F A m).1 m).boot ((tickZ F A m).1 m).seq (nowA F m) 0 0 0 0 0 ((tickZ F A m).1 m).fx ((tickZ F A m).1 m).fy ((tickZ F A m).1 m).fa ((tickZ F A m).1 m).fb ((tickZ F A m).1 m).fd) m ((F.tm+1)*16777216+min (0+1) 16777215)) (tickZ F A m).2 F.n).2:=by rw[hS']
    skip
    refine N.go ?_
    refine qa4 [0,2,3,8,5,6,7,1,17] _ (by show midB _ _ _ _=Bool.true;kernel_rfl) (fun h₂ hh=>qlg F.C F.n β.2 β.1 hn h5 (tickZ F A m).2.2 hlost F.P (fun _=>false) (F.tm+1) _ _ F.on (prF F.g F.n) W B' L' (tickZ F A m).2.1 hA' m hm _ 5 ((tickZ F A m).1 m).id ((tickZ F A m).1 m).boot ((tickZ F A m).1 m).seq (nowA F m) 0 0 0 0 0 ((tickZ F A m).1 m).fx ((tickZ F A m).1 m).fy ((tickZ F A m).1 m).fa ((tickZ F A m).1 m).fb ((tickZ F A m).1 m).fd _ κ (qas (by decide)) (by rw[hsm];exact qas (by have:=ok.id;omega)) (by rw[hsm];exact qas (by have:=ok.tick.boot;omega)) (by rw[hsm];exact qas (by have:=ok.tick.seq;omega)) (qas (by omega)) (qas (by decide)) (qas (by decide)) (qas (by decide)) (qas (by decide)) (qas (by decide)) (by rw[hsm];have hm:=ok.may hv;unfold mayP qau at hm;exact qas (by omega)) (by rw[hsm];have hm:=ok.may hv;unfold mayP qau at hm;exact qas (by omega)) (by rw[hsm];have hm:=ok.may hv;unfold mayP qau at hm;exact qas (by omega)) (by rw[hsm];have hm:=ok.may hv;unfold mayP qau at hm;exact qas (by omega)) (by rw[hsm];have hm:=ok.may hv;unfold mayP qau at hm;exact qas (by omega))  (fun h=>q23 _ _ _ _ _ _ _ _ _ (by rw[hsm];exact⟨ok.id.1,ok.id.2⟩) (by rw[hsm];exact ok.tick.boot) (by rw[hsm];exact⟨ok.tick.seq.1,by have:=ok.tick.seq.2;omega⟩) hnow (by rw[hsm];exact ok.may hv) h) 0 2 3 8 5 6 7 1 17 h₂ ((hh 0 (by simp)).trans rfl) ((hh 2 (by simp)).trans rfl) ((hh 3 (by simp)).trans rfl) ((hh 8 (by simp)).trans rfl) ((hh 5 (by simp)).trans rfl) ((hh 6 (by simp)).trans rfl) ((hh 7 (by simp)).trans rfl) ((hh 1 (by simp)).trans rfl) ((hh 17 (by simp)).trans rfl) (by decide)) fun v ms hR=>?_
    obtain⟨L2,B2,hA2,hM2,rfl,rfl⟩:=hR
    refine⟨by simp,?_⟩
    repeat' (refine N.go ?_;first|with_reducible refine N.obl (by decide) ?_|fail)
    refine N.go ?_
    refine N.nextR (α:=Nat×List Ml×List By) (m+1,L2,B2) [(0,0),(1,1),(2,2),(3,3),(4,4),(5,5),(6,6),(7,7),(8,8)] ⟨⟨hm,by show AirA W _ _ (tickZ F A (m+1)).2.1;rw[hS'];exact hA2,fun e h=>hM2 e (hM' e h)⟩,by show F.n-(m+1)<F.n-m;omega⟩ ?_
    repeat' (refine N.go ?_;first|exact N.true|refine N.obl (.plain (by rfl)) ?_|refine N.obl (.one (.ptr rfl)) ?_|refine N.obl (.one (.slice rfl)) ?_|refine N.obl (@ChunkReLe.mk _ _ _ ⟨.inr rfl⟩ id (nlr _) (nzj)) ?_|refine N.obl ⟨id,nlr _,(by first|(refine lt16 ?_ ?_ ?_ ?_ ?_ ?_ ?_ ?_ ?_ ?_ ?_ ?_ ?_ ?_ ?_ (qdu hS2)<;>first|exact Re1.plain rfl|exact Re1.ptr rfl|exact Re1.slice rfl)|fail)⟩ ?_|refine N.obl (qa2 (qaz ej) rfl) ?_|refine N.obl ⟨id,nlr _,(by first|(refine lt15 ?_ ?_ ?_ ?_ ?_ ?_ ?_ ?_ ?_ ?_ ?_ ?_ ?_ ?_ ?_<;>first|exact Re1.plain rfl|exact Re1.ptr rfl|exact Re1.slice rfl)|fail)⟩ ?_|refine N.obl ⟨id,nlr _,qa8⟩ ?_|refine N.obl ⟨id,nlr _,qay⟩ ?_|refine N.obl pr_ren ?_|refine N.obl (by rw[hS1];exact qdm fun _ _=>rfl) ?_|fail)
   ·have hv:(F.s m).fv=false:=by cases h:(F.s m).fv<;>first|rfl|exact absurd h hv
    refine qa4 [5,18,17] _ (by show midB _ _ _ _=Bool.true;kernel_rfl) (fun h₂ hh=>qy6 F.n m F.g (tickZ F A m).1 hm (by rw[hsm];exact ok.tick) (by rw[hsm];exact hv) (nowA F m) _ hnow (by rw[hsm];exact hd) 5 18 17 (by decide) h₂ ((hh 5 (by simp)).trans rfl) ((hh 18 (by simp)).trans rfl) ((hh 17 (by simp)).trans rfl)) fun v ms hR=>?_
    obtain⟨κ,hκ,rfl,rfl⟩:=hR
    refine⟨by simp,?_⟩
    have hd':¬ nowA F m<((tickZ F A m).1 m).tx:=by rw[hsm];exact hd
    have hv':((tickZ F A m).1 m).fv=false:=by rw[hsm];exact hv
    have hS':tickZ F A (m+1)=(upd (tickZ F A m).1 m (tickS ((tickZ F A m).1 m) (nowA F m)),sendA m F.on (mkA F.C F.P (encB 1 ((tickZ F A m).1 m).id ((tickZ F A m).1 m).boot ((tickZ F A m).1 m).seq (nowA F m) 0 0 0 0 0 0 0 0 0 0) m ((F.tm+1)*16777216+min (0+1) 16777215)) (tickZ F A m).2 F.n):=by
     rw[hS]
     unfold tickB
     rw[if_neg hd',hv']
     rfl
    have hS1:(tickZ F A (m+1)).1=upd (tickZ F A m).1 m (tickS ((tickZ F A m).1 m) (nowA F m)):=by rw[hS']
    have hS2:(tickZ F A (m+1)).2.2=(sendA m F.on (mkA F.C F.P (encB 1 ((tickZ F A m).1 m).id ((tickZ F A m).1 m).boot ((tickZ F A m).1 m).seq (nowA F m) 0 0 0 0 0 0 0 0 0 0) m ((F.tm+1)*16777216+min (0+1) 16777215)) (tickZ F A m).2 F.n).2:=by rw[hS']
    skip
    refine N.go ?_
    refine qa4 [0,2,3,8,5,6,7,1,17] _ (by show midB _ _ _ _=Bool.true;kernel_rfl) (fun h₂ hh=>qlg F.C F.n β.2 β.1 hn h5 (tickZ F A m).2.2 hlost F.P (fun _=>false) (F.tm+1) _ _ F.on (prF F.g F.n) W B' L' (tickZ F A m).2.1 hA' m hm _ 1 ((tickZ F A m).1 m).id ((tickZ F A m).1 m).boot ((tickZ F A m).1 m).seq (nowA F m) 0 0 0 0 0 0 0 0 0 0 _ κ (qas (by decide)) (by rw[hsm];exact qas (by have:=ok.id;omega)) (by rw[hsm];exact qas (by have:=ok.tick.boot;omega)) (by rw[hsm];exact qas (by have:=ok.tick.seq;omega)) (qas (by omega)) (qas (by decide)) (qas (by decide)) (qas (by decide)) (qas (by decide)) (qas (by decide)) (qas (by decide)) (qas (by decide)) (qas (by decide)) (qas (by decide)) (qas (by decide))  (fun h=>q2z _ _ _ _ (by rw[hsm];exact⟨ok.id.1,ok.id.2⟩) (by rw[hsm];exact ok.tick.boot) (by rw[hsm];exact⟨ok.tick.seq.1,by have:=ok.tick.seq.2;omega⟩) hnow h) 0 2 3 8 5 6 7 1 17 h₂ ((hh 0 (by simp)).trans rfl) ((hh 2 (by simp)).trans rfl) ((hh 3 (by simp)).trans rfl) ((hh 8 (by simp)).trans rfl) ((hh 5 (by simp)).trans rfl) ((hh 6 (by simp)).trans rfl) ((hh 7 (by simp)).trans rfl) ((hh 1 (by simp)).trans rfl) ((hh 17 (by simp)).trans rfl) (by decide)) fun v ms hR=>?_
    obtain⟨L2,B2,hA2,hM2,rfl,rfl⟩:=hR
    refine⟨by simp,?_⟩
    repeat' (refine N.go ?_;first|with_reducible refine N.obl (by decide) ?_|fail)
    refine N.go ?_
    refine N.nextR (α:=Nat×List Ml×List By) (m+1,L2,B2) [(0,0),(1,1),(2,2),(3,3),(4,4),(5,5),(6,6),(7,7),(8,8)] ⟨⟨hm,by show AirA W _ _ (tickZ F A (m+1)).2.1;rw[hS'];exact hA2,fun e h=>hM2 e (hM' e h)⟩,by show F.n-(m+1)<F.n-m;omega⟩ ?_
    repeat' (refine N.go ?_;first|exact N.true|refine N.obl (.plain (by rfl)) ?_|refine N.obl (.one (.ptr rfl)) ?_|refine N.obl (.one (.slice rfl)) ?_|refine N.obl (@ChunkReLe.mk _ _ _ ⟨.inr rfl⟩ id (nlr _) (nzj)) ?_|refine N.obl ⟨id,nlr _,(by first|(refine lt16 ?_ ?_ ?_ ?_ ?_ ?_ ?_ ?_ ?_ ?_ ?_ ?_ ?_ ?_ ?_ (qdu hS2)<;>first|exact Re1.plain rfl|exact Re1.ptr rfl|exact Re1.slice rfl)|fail)⟩ ?_|refine N.obl (qa2 (qaz ej) rfl) ?_|refine N.obl ⟨id,nlr _,(by first|(refine lt15 ?_ ?_ ?_ ?_ ?_ ?_ ?_ ?_ ?_ ?_ ?_ ?_ ?_ ?_ ?_<;>first|exact Re1.plain rfl|exact Re1.ptr rfl|exact Re1.slice rfl)|fail)⟩ ?_|refine N.obl ⟨id,nlr _,qa8⟩ ?_|refine N.obl ⟨id,nlr _,qay⟩ ?_|refine N.obl pr_ren ?_|refine N.obl (by rw[hS1];exact qdm fun _ _=>rfl) ?_|fail)
 ·obtain rfl:m=F.n:=by omega
  repeat' (refine N.go ?_;first|refine N.forkNo (decide_eq_false (by omega)) ?_|fail)
  refine N.go ?_
  refine qhc (ok:=flOK (tickF F L' (tickZ F A F.n))) (hB:=flH (tickF F L' (tickZ F A F.n))) β 0 [(0,0),(1,2),(2,3),(3,8),(4,5),(5,6),(6,7)] [1] (fun l i hm' hl=>?_) (fun i hi=>?_) hβ rfl ⟨_,rfl⟩ rfl rfl ?_ (fun k hk l i hm'=>?_) (safeM (by rfl)) (fun ρ ρ' _=>rfl) (Nat.zero_lt_succ _) ?_
  ·simp only[List.mem_cons,Prod.mk.injEq,List.not_mem_nil,or_false] at hm'
   have hl:i<2:=hl
   obtain rfl:i=0:=by omega
   exact⟨_,rfl,qbk F,qah⟩
  ·have hi:i<2:=hi
   rcases(by omega:i=0∨i=1) with rfl|rfl
   ·exact .inl rfl
   ·exact .inr (List.mem_singleton.2 rfl)
  ·intro l d hl
   match l,hl with
   | 0,hl=>
    obtain rfl:_=d:=by simpa using hl
    exact⟨0,_,rfl,rfl,rfl,nlr _,(by first|(refine lt16 ?_ ?_ ?_ ?_ ?_ ?_ ?_ ?_ ?_ ?_ ?_ ?_ ?_ ?_ ?_ ?_<;>first|exact Re1.plain rfl|exact Re1.ptr rfl|exact Re1.slice rfl)|fail),.inl rfl,.inl (by show 0<16;decide)⟩
   | 1,hl=>
    obtain rfl:_=d:=by simpa using hl
    exact⟨2,_,rfl,rfl,rfl,nlr _,(by first|(refine lt15 ?_ ?_ ?_ ?_ ?_ ?_ ?_ ?_ ?_ ?_ ?_ ?_ ?_ ?_ ?_<;>first|exact Re1.plain rfl|exact Re1.ptr rfl|exact Re1.slice rfl)|fail),.inl rfl,.inl (by show 0<15;decide)⟩
   | 2,hl=>
    obtain rfl:_=d:=by simpa using hl
    exact⟨3,_,rfl,rfl,rfl,nlr _,qa8,.inl rfl,.inl (by show 0<F.n*2;omega)⟩
   | 3,hl=>
    obtain rfl:_=d:=by simpa using hl
    exact⟨8,_,rfl,rfl,rfl,nlr _,qay,.inl rfl,.inl (by show 0<F.n;omega)⟩
   | 4,hl=>
    obtain rfl:_=d:=by simpa using hl
    exact⟨5,_,rfl,rfl,rfl,nlr _,(qdm fun _ _=>rfl).re,.inr rfl,.inl (by show 0<F.n;omega)⟩
   | 5,hl=>
    obtain rfl:_=d:=by simpa using hl
    exact⟨6,_,rfl,rfl,rfl,nlr _,pr_ren.re,.inl rfl,.inl (by have:=hβ.2;show 0<β.2;omega)⟩
   | 6,hl=>
    obtain rfl:_=d:=by simpa using hl
    exact⟨7,_,rfl,rfl,rfl,nlr _,nzj,.inr rfl,.inr qah⟩
  ·obtain rfl:=List.mem_singleton.1 hk
   simp only[List.mem_cons,Prod.mk.injEq,List.not_mem_nil,or_false] at hm'
   omega
  refine N.some (L',B') ⟨⟨hA',hM'⟩,?_⟩
  refine N.obl (.plain rfl) ?_
  refine N.obl ⟨⟨_,rfl,fun h=>h,nlr _,nzj⟩,⟨_,rfl,fun h=>h,nlr _,nzj⟩,trivial⟩ ?_
  refine N.obl trivial ?_
  refine N.obl ⟨⟨.inr ⟨_,rfl,rfl⟩,.inr ⟨_,rfl,rfl⟩,trivial⟩,trivial⟩ ?_
  exact N.true
open Go Go.RowKit Sx
theorem qrt {α B:Type} {Y Z:α→Ext} {q:Nat×Nat} {a:α} (ok:B→Prop) (hs:α→B→Hp) (c:Nat) (o:Bool) (m:Nat) (ps:B→List (Nat×Nat×Value)) (g0:∀ a β,(hs a β)[c]?=some (some (@Chunk.mk (Y a) o m (ps β)))) (gs:∀ a a' β k,k≠c→(hs a β)[k]?=(hs a' β)[k]?) (hL:Lens Y Z q a) :
  Lens (fun a=>packX ok (hs a)) Z q a:=fun p S w h=>by
 obtain⟨hSp,β,hβ,ρ,T,h0,hf0,K⟩:=h
 have gs':∀ a a' k d,k≠c→(hs a β)[k]?=some (some d)→(hs a' β)[k]?=some (some d):=fun a a' k d hk h=>(gs a' a β k hk).trans h
 have fl:∀ a a' k,Fil (hs a β) k→Fil (hs a' β) k:=fun a a' k hf=>by
  by_cases e:k=c
  ·subst e;exact⟨_,g0 a' β⟩
  ·exact⟨_,gs' a a' k _ e hf.choose_spec⟩
 obtain⟨S0,T1,hT,hd,hp,hz,hq,hw⟩:=hL _ _ _ (K.inv c _ (g0 a β))
 have TcS:∀ b,T c b→S b:=fun b hb=>(K.foot c _ b (g0 a β) hb).1
 have n1:∀ k d,(hs a β)[k]?=some (some d)→¬ T1 (ρ k).1:=fun k d hk h1=>by
  by_cases e:k=c
  ·subst e;exact hp h1
  ·exact((K.sep c _ k d (g0 a β) hk (Ne.symm e)).2 _ ((hT _).2 (.inr h1))).1 rfl
 obtain⟨d00,hd00⟩:=hf0
 have hp0:¬ T1 p.1:=by have:=n1 0 d00 hd00;rw[h0] at this;exact this
 refine⟨fun b=>S b∧¬ T1 b,T1,fun b=>⟨fun hb=>?_,fun hb=>?_⟩,fun b hb=>hb.2,hp0,hz,hq,fun a2 T2 w2 h2 hd2 hp2 hz2 hq2=>?_⟩
 ·by_cases h1:T1 b
  ·exact .inr h1
  ·exact .inl ⟨hb,h1⟩
 ·rcases hb with hb|hb
  ·exact hb.1
  ·exact TcS b ((hT b).2 (.inr hb))
 have Tk:∀ k d b,k≠c→(hs a β)[k]?=some (some d)→T k b→S b∧¬ T1 b:=fun k d b hk hkd hb=>⟨(K.foot k d b hkd hb).1,fun h1=>(K.sep k d c _ hkd (g0 a β) hk).2 b hb |>.2 ((hT b).2 (.inr h1))⟩
 have S0k:∀ b,S0 b→S b∧¬ T1 b:=fun b hb=>⟨TcS b ((hT b).2 (.inl hb)),hd b hb⟩
 have blk:∀ k d,(hs a β)[k]?=some (some d)→S (ρ k).1∧¬ T1 (ρ k).1:=fun k d hk=>⟨K.blk k d hk,n1 k d hk⟩
 have back:∀ k d,(hs a2 β)[k]?=some (some d)→∃ d0,(hs a β)[k]?=some (some d0)∧d.n=d0.n∧(∀ j,d.f j=d0.f j)∧(k≠c→d=d0):=fun k d hk=>by
  by_cases e:k=c
  ·subst e
   rw[g0] at hk
   obtain rfl:=Option.some.inj (Option.some.inj hk)
   exact⟨_,g0 a β,rfl,fun _=>rfl,fun h=>absurd rfl h⟩
  ·exact⟨d,gs' a2 a k d e hk,rfl,fun _=>rfl,fun _=>rfl⟩
 have hpc:¬ T2 (ρ c).1:=fun h=>hd2 _ (blk c _ (g0 a β)) h
 refine⟨.inl (by have:=blk 0 d00 hd00;rw[h0] at this;exact this),β,hβ,ρ,fun k=>if k=c then fun b=>S0 b∨T2 b else T k,h0,fl a a2 0 ⟨d00,hd00⟩,fun k d hk=>?_,fun k d hk j hj=>?_,fun k d hk j hj=>?_,fun k d hk=>?_,fun k d b hk hb=>?_,fun k d l e hk hl hne=>?_⟩
 ·obtain⟨d0,hk0,_⟩:=back k d hk
  exact .inl (blk k d0 hk0)
 ·obtain⟨d0,hk0,hn,hf,_⟩:=back k d hk
  obtain⟨x,hx,hxd⟩:=K.cell k d0 hk0 j (by omega)
  have e:=h2 _ (blk k d0 hk0)
  refine⟨x,?_,?_⟩
  ·rw[←hx];unfold World.cell?;simp only[e]
  ·rw[hf j];exact fun r hr=>hxd r fun i hi=>hr i (fl a a2 i hi)
 ·obtain⟨d0,hk0,hn,hf,_⟩:=back k d hk
  have e:=h2 _ (blk k d0 hk0)
  rw[←K.own k d0 hk0 j (by omega)];unfold World.frozen?;simp only[e]
 ·by_cases e:k=c
  ·subst e
   rw[g0] at hk
   obtain rfl:=Option.some.inj (Option.some.inj hk)
   simp only[if_pos]
   exact hw a2 T2 w2 (fun b hb=>h2 b (S0k b hb)) (fun b hb=>hd2 b (S0k b hb)) hpc hz2 hq2
  ·simp only[if_neg e]
   have hk0:=gs' a2 a k d e hk
   exact d.x.keep (K.inv k d hk0) fun b hb=>h2 b (Tk k d b e hk0 hb)
 ·by_cases e:k=c
  ·subst e
   rw[g0] at hk
   obtain rfl:=Option.some.inj (Option.some.inj hk)
   simp only[if_pos] at hb
   rcases hb with hb|hb
   ·exact⟨.inl (S0k b hb),(K.foot k _ b (g0 a β) ((hT b).2 (.inl hb))).2⟩
   ·exact⟨.inr hb,.inr fun e=>hpc (e▸hb)⟩
  ·simp only[if_neg e] at hb
   have hk0:=gs' a2 a k d e hk
   exact⟨.inl (Tk k d b e hk0 hb),(K.foot k d b hk0 hb).2⟩
 ·obtain⟨d0,hk0,_⟩:=back k d hk
  obtain⟨e0,hl0,_⟩:=back l e hl
  obtain⟨s1,s2⟩:=K.sep k d0 l e0 hk0 hl0 hne
  refine⟨s1,fun b hb=>?_⟩
  by_cases ek:k=c
  ·subst ek
   simp only[if_pos] at hb
   have el:l≠k:=Ne.symm hne
   simp only[if_neg el]
   rcases hb with hb|hb
   ·exact s2 b ((hT b).2 (.inl hb))
   ·exact⟨fun e=>hd2 _ (blk l e0 hl0) (e▸hb),fun h=>hd2 b (Tk l e0 b el hl0 h) hb⟩
  ·simp only[if_neg ek] at hb
   obtain⟨a1,a2'⟩:=s2 b hb
   refine⟨a1,fun h=>?_⟩
   by_cases el:l=c
   ·subst el
    simp only[if_pos] at h
    rcases h with h|h
    ·exact a2' ((hT b).2 (.inl h))
    ·exact hd2 b (Tk k d0 b ek hk0 hb) h
   ·simp only[if_neg el] at h
    exact a2' h
theorem q29 (F:FS) (m:Nat) (hm:m<F.n):Lens (fun a=>packX (flOK F) (flH {F with s:=upd F.s m a})) ndX (F.g m) (F.s m):=by
 refine qrt (Y:=fun a=>manyX ndX F.n F.g (upd F.s m a)) (flOK F) (fun a=>flH {F with s:=upd F.s m a}) 4 true F.n (fun _=>[(0,F.n,.agg ⟨segL F.n (fun j=>.bool (F.on j))⟩)]) (fun a β=>rfl) (fun a a' β k hk=>?_) (qdh ndX F.g F.s hm (F.s m) rfl)
 match k,hk with
 | 0,_=>rfl
 | 1,_=>rfl
 | 2,_=>rfl
 | 3,_=>rfl
 | 4,hk=>exact absurd rfl hk
 | 5,_=>rfl
 | 6,_=>rfl
 | k+7,_=>rfl
theorem q5w (C:Nat→Int) (n cap iw ia io i0 ip m:Nat) (lost:Int) (hm:m<n) (f:Nat→Value) (h:Hp) (h0:h[i0]?=some (some (flC C n iw ia io (.slice (some ⟨ip,0,some 0⟩) n cap) lost))) (ha:∃ c,h[ia]?=some (some c)) (hw:∃ c,h[iw]?=some (some c)) (ho:∃ c,h[io]?=some (some c)) (hp:∃ c,h[ip]?=some (some c)) (hne:[i0,iw,ia,io,ip].Nodup) :
  qad Tryz.prog 30 [.pointer (some ⟨i0,0,some 0⟩),.int .i64 (m:Int)] h (.bool true) [] [i0,iw,ia,io,ip]:=by
 obtain⟨ca,ha⟩:=ha
 obtain⟨cw,hw⟩:=hw
 obtain⟨co,ho⟩:=ho
 obtain⟨cp,hp⟩:=hp
 simp only[List.nodup_cons,List.mem_cons,List.not_mem_nil,or_false,not_or,List.nodup_nil,and_true,not_false_eq_true] at hne
 refine qar (G:=tys) [⟨i0,_,(@Chunk.mk Ext.none false 16 (flC C n 1 2 3 (.slice (some ⟨4,0,some 0⟩) n cap) lost).ps),(@Chunk.mk Ext.none false 0 [])⟩,⟨iw,cw,(@Chunk.mk Ext.none false 0 []),(@Chunk.mk Ext.none false 0 [])⟩,⟨ia,ca,(@Chunk.mk Ext.none false 0 []),(@Chunk.mk Ext.none false 0 [])⟩,⟨io,co,(@Chunk.mk Ext.none false 0 []),(@Chunk.mk Ext.none false 0 [])⟩,⟨ip,cp,(@Chunk.mk Ext.none false 0 []),(@Chunk.mk Ext.none false 0 [])⟩] [] [.pointer (some ⟨0,0,some 0⟩),.int .i64 (m:Int)] tysOK mixed Tryz.func30 (by rfl) (Tryz.call30) ⟨h0,hw,ha,ho,hp,trivial⟩ ⟨⟨fun h=>(by cases h),nlr _,(by first|(refine lt16 ?_ ?_ ?_ ?_ ?_ ?_ ?_ ?_ ?_ ?_ ?_ ?_ ?_ ?_ ?_ ?_<;>first|exact Re1.plain rfl|exact Re1.ptr rfl|exact Re1.slice rfl)|fail)⟩,⟨fun h=>(by cases h),Nat.zero_le _,nzj⟩,⟨fun h=>(by cases h),Nat.zero_le _,nzj⟩,⟨fun h=>(by cases h),Nat.zero_le _,nzj⟩,⟨fun h=>(by cases h),Nat.zero_le _,nzj⟩,trivial⟩ (by simp[Apart, *]) trivial ⟨.ptr rfl,.plain rfl,trivial⟩ ?_
 repeat' (refine N.go ?_;first|with_reducible refine N.forkT ?_|refine N.forkYes (decide_eq_true (by omega)) ?_|refine N.obl trivial ?_|exact N.true|refine N.obl (qa2 (congrArg Value.bool (decide_eq_true (show(m:Int)<(n:Int) by omega)).symm) rfl) ?_|fail)
theorem qcl {ss:List Piece} {h:Hp} {v:Value} {K:Value→Hp→Prop} (F:FS) (β:Nat×Nat) (hn:0<F.n) (hβ:flOK F β) (hss:ss.length=1) (hpc:∃ s,ss[0]?=some s∧s.e.x≠Ext.none∧Selfish s.e.x) (hh:∀ k,k<7→h[k]?=(flH F β)[k]?)
  (hv:∀ ρ ρ',AgreeOn (Fil (qa7 (flP F) 0 [] h 0)) ρ ρ'→den ρ' v=den ρ v) (kk:K v (qa7 (flP F) 0 [] h 0)):N (EndN ss h v K):=by
 refine qhc (ok:=flOK F) (hB:=flH F) β 0 [(0,0),(1,1),(2,2),(3,3),(4,4),(5,5),(6,6)] [] (fun l i hm' hl=>?_) (fun i hi=>.inl (by omega)) hβ rfl ⟨_,rfl⟩ rfl rfl ?_ (fun k hk=>by cases hk) (fun k hk=>by cases hk) hv (List.getElem?_eq_some_iff.1 ((hh 0 (by decide)).trans rfl)).1 kk
 ·obtain rfl:i=0:=by omega
  exact hpc
 ·intro l d hl
  match l,hl with
  | 0,hl=>
   obtain rfl:_=d:=by simpa using hl
   exact⟨0,_,rfl,(hh 0 (by decide)).trans rfl,rfl,nlr _,(by first|(refine lt16 ?_ ?_ ?_ ?_ ?_ ?_ ?_ ?_ ?_ ?_ ?_ ?_ ?_ ?_ ?_ ?_<;>first|exact Re1.plain rfl|exact Re1.ptr rfl|exact Re1.slice rfl)|fail),.inl rfl,.inl (by show 0<16;decide)⟩
  | 1,hl=>
   obtain rfl:_=d:=by simpa using hl
   exact⟨1,_,rfl,(hh 1 (by decide)).trans rfl,rfl,nlr _,(by first|(refine lt15 ?_ ?_ ?_ ?_ ?_ ?_ ?_ ?_ ?_ ?_ ?_ ?_ ?_ ?_ ?_<;>first|exact Re1.plain rfl|exact Re1.ptr rfl|exact Re1.slice rfl)|fail),.inl rfl,.inl (by show 0<15;decide)⟩
  | 2,hl=>
   obtain rfl:_=d:=by simpa using hl
   exact⟨2,_,rfl,(hh 2 (by decide)).trans rfl,rfl,nlr _,qa8,.inl rfl,.inl (by show 0<F.n*2;omega)⟩
  | 3,hl=>
   obtain rfl:_=d:=by simpa using hl
   exact⟨3,_,rfl,(hh 3 (by decide)).trans rfl,rfl,nlr _,qay,.inl rfl,.inl hn⟩
  | 4,hl=>
   obtain rfl:_=d:=by simpa using hl
   exact⟨4,_,rfl,(hh 4 (by decide)).trans rfl,rfl,nlr _,(qdm fun _ _=>rfl).re,.inr rfl,.inl hn⟩
  | 5,hl=>
   obtain rfl:_=d:=by simpa using hl
   exact⟨5,_,rfl,(hh 5 (by decide)).trans rfl,rfl,nlr _,pr_ren.re,.inl rfl,.inl (by have:=hβ.2;show 0<β.2;omega)⟩
  | 6,hl=>
   obtain rfl:_=d:=by simpa using hl
   exact⟨6,_,rfl,(hh 6 (by decide)).trans rfl,rfl,nlr _,nzj,.inr rfl,.inr qah⟩
  | l+7,hl=>simp at hl
theorem lt7F {p:Nat→Prop} (h0:p 0) (h1:p 1) (h2:p 2) (h3:p 3) (h4:p 4) (h5:p 5) (h6:p 6):∀ k,k<7→p k:=fun k hk=>by
 match k,hk with
 | 0,_=>exact h0
 | 1,_=>exact h1
 | 2,_=>exact h2
 | 3,_=>exact h3
 | 4,_=>exact h4
 | 5,_=>exact h5
 | 6,_=>exact h6
theorem qvt (F:FS) (m:Nat) (hm:m<F.n) (i:Nat) (h:Hp) (hi:h[i]?=some (some (flP F))) :
  CallAll Tryz.prog 11 [.pointer (some ⟨i,0,some 0⟩),.int .i64 (m:Int)] h fun v ms=>v=realP (F.g m)∧ms=[(i,flP F)]:=by
 have key:=qaj (G:=tys) (h:=h) (vs:=[.pointer (some ⟨i,0,some 0⟩),.int .i64 (m:Int)]) (flOK F) (flH F) (α:=Unit) (fun κ=>True) (fun κ=>realP (F.g m)) [⟨i,flP F,flP F,flP F⟩] (fun κ=>[flP F]) (fun κ=>[]) [.pointer (some ⟨0,0,some 0⟩),.int .i64 (m:Int)] tysOK mixed Tryz.func11 (by rfl) (Tryz.call11) ⟨hi,trivial⟩ ⟨⟨fun h=>⟨rfl,nlr _⟩,nlr _,nzj⟩,trivial⟩ (fun κ _=>⟨⟨fun h=>⟨rfl,nlr _⟩,nlr _,nzj⟩,trivial⟩) (by simp[Apart]) ⟨.inr ⟨rfl,rfl⟩,trivial⟩ (fun κ _=>trivial) ⟨.ptr rfl,.plain rfl,trivial⟩ qat ?_
 ·refine qae key fun v ms hR=>?_
  obtain⟨κ,_,rfl,rfl⟩:=hR
  exact⟨rfl,rfl⟩
 intro β hβ
 repeat' (refine N.go ?_;first|refine N.forkNo (by decide) ?_|refine N.call (q5w F.C F.n β.2 1 6 4 0 5 m F.lost hm (prF F.g F.n) _ (by rfl) ⟨_,by rfl⟩ ⟨_,by rfl⟩ ⟨_,by rfl⟩ ⟨_,by rfl⟩ (by decide)) ?_|refine N.idx m 1 rfl hm ?_|refine N.load _ (rd_pr hm hβ.2 rfl) ?_|fail)
 refine N.go ?_
 refine qcl F β (by omega) hβ rfl ⟨_,rfl,qbk F,qah⟩ (lt7F rfl rfl rfl rfl rfl rfl rfl) (fun ρ ρ' _=>rfl) ?_
 refine N.some () ⟨trivial,?_⟩
 refine N.obl (.plain rfl) ?_
 refine N.obl ⟨⟨_,rfl,fun h=>h,nlr _,nzj⟩,trivial⟩ ?_
 refine N.obl trivial ?_
 refine N.obl ⟨⟨.inr ⟨_,rfl,rfl⟩,trivial⟩,trivial⟩ ?_
 exact N.true
theorem q3a (F:FS) (hn:0<F.n) (i:Nat) (h:Hp) (hi:h[i]?=some (some (flP F))) :
  CallAll Tryz.prog 15 [.pointer (some ⟨i,0,some 0⟩)] h fun v ms=>v=.int .i64 F.tm∧ms=[(i,flP F)]:=by
 have key:=qaj (G:=tys) (h:=h) (vs:=[.pointer (some ⟨i,0,some 0⟩)]) (flOK F) (flH F) (α:=Unit) (fun κ=>True) (fun κ=>.int .i64 F.tm) [⟨i,flP F,flP F,flP F⟩] (fun κ=>[flP F]) (fun κ=>[]) [.pointer (some ⟨0,0,some 0⟩)] tysOK mixed Tryz.func15 (by rfl) (Tryz.call15) ⟨hi,trivial⟩ ⟨⟨fun h=>⟨rfl,nlr _⟩,nlr _,nzj⟩,trivial⟩ (fun κ _=>⟨⟨fun h=>⟨rfl,nlr _⟩,nlr _,nzj⟩,trivial⟩) (by simp[Apart]) ⟨.inr ⟨rfl,rfl⟩,trivial⟩ (fun κ _=>trivial) ⟨.ptr rfl,trivial⟩ qat ?_
 ·refine qae key fun v ms hR=>?_
  obtain⟨κ,_,rfl,rfl⟩:=hR
  exact⟨rfl,rfl⟩
 intro β hβ
 repeat' (refine N.go ?_;first|with_reducible refine N.forkF ?_|refine N.call (cTime F.C F.n β.1 1 2 3 F.P F.M F.tm F.st true true true _ (by rfl) (by rfl) (by rfl)) ?_|fail)
 refine N.go ?_
 refine qcl F β (by omega) hβ rfl ⟨_,rfl,qbk F,qah⟩ (lt7F rfl rfl rfl rfl rfl rfl rfl) (fun ρ ρ' _=>rfl) ?_
 refine N.some () ⟨trivial,?_⟩
 refine N.obl (.plain rfl) ?_
 refine N.obl ⟨⟨_,rfl,fun h=>h,nlr _,nzj⟩,trivial⟩ ?_
 refine N.obl trivial ?_
 refine N.obl ⟨⟨.inr ⟨_,rfl,rfl⟩,trivial⟩,trivial⟩ ?_
 exact N.true
theorem qvu (F:FS) (m:Nat) (hm:m<F.n) (hE:(F.s m).T.E=[]) (i k:Nat) (h:Hp) (hi:h[i]?=some (some (flP F))) (hk:h[k]?=some none) :
  CallAll Tryz.prog 12 [realP (F.g m)] h fun v ms=>v=rpV (F.s m).fv (F.s m).fx (F.s m).fy (F.s m).fa (F.s m).fb (F.s m).fd (.slice none 0 0)∧ms=[(i,flP F)]:=by
 have hkl:=(List.getElem?_eq_some_iff.1 hk).1
 have hF:({F with s:=upd F.s m (F.s m)}:FS)=F:=by rw[qco]
 have key:=qy3 (F.s m) hE k ((h.set i (some (@Chunk.mk (wandX (fun a=>packX (flOK F) (flH {F with s:=upd F.s m a})) ndX (F.g m)) true 0 []))).set k (some (@Chunk.mk (ndX (F.s m)) true 0 []))) (List.getElem?_set_self (by simpa using hkl))
 have hi':h[i]?=some (some (@Chunk.mk (packX (flOK F) (flH {F with s:=upd F.s m (F.s m)})) true 0 [])):=by rw[hi,hF]
 refine qdg (vs':=[.pointer (some ⟨k,0,some 0⟩)]) (Y:=fun a=>packX (flOK F) (flH {F with s:=upd F.s m a})) (Z:=ndX) (q:=F.g m) (a:=F.s m) i k hi' hk (q29 F m hm) qdt ⟨.ptr,trivial⟩ (qbn key) fun v ms hR=>?_
 obtain⟨rfl,rfl⟩:=hR
 refine⟨F.s m,[],?_,(fun m hm=>by cases hm),(fun r r' _=>by simp[den,den2,den1,den0,denA]),rfl,?_⟩
 ·show List.set _ _ _=_
  rw[List.set_set]
  rfl
 ·rw[hF]
theorem q5x (F:FS) (hn:0<F.n) (i:Nat) (h:Hp) (hi:h[i]?=some (some (flP F))) :
  CallAll Tryz.prog 13 [.pointer (some ⟨i,0,some 0⟩)] h fun v ms=>v=.int .i64 (F.L.length:Nat)∧ms=[(i,flP F)]:=by
 have key:=qaj (G:=tys) (h:=h) (vs:=[.pointer (some ⟨i,0,some 0⟩)]) (flOK F) (flH F) (α:=Unit) (fun κ=>True) (fun κ=>.int .i64 (F.L.length:Nat)) [⟨i,flP F,flP F,flP F⟩] (fun κ=>[flP F]) (fun κ=>[]) [.pointer (some ⟨0,0,some 0⟩)] tysOK mixed Tryz.func13 (by rfl) (Tryz.call13) ⟨hi,trivial⟩ ⟨⟨fun h=>⟨rfl,nlr _⟩,nlr _,nzj⟩,trivial⟩ (fun κ _=>⟨⟨fun h=>⟨rfl,nlr _⟩,nlr _,nzj⟩,trivial⟩) (by simp[Apart]) ⟨.inr ⟨rfl,rfl⟩,trivial⟩ (fun κ _=>trivial) ⟨.ptr rfl,trivial⟩ qat ?_
 ·refine qae key fun v ms hR=>?_
  obtain⟨κ,_,rfl,rfl⟩:=hR
  exact⟨rfl,rfl⟩
 intro β hβ
 repeat' (refine N.go ?_;first|with_reducible refine N.forkF ?_|refine N.call (cLenM F.L 6 _ (by rfl)) ?_|fail)
 refine N.go ?_
 refine qcl F β (by omega) hβ rfl ⟨_,rfl,qbk F,qah⟩ (lt7F rfl rfl rfl rfl rfl rfl rfl) (fun ρ ρ' _=>rfl) ?_
 refine N.some () ⟨trivial,?_⟩
 refine N.obl (.plain rfl) ?_
 refine N.obl ⟨⟨_,rfl,fun h=>h,nlr _,nzj⟩,trivial⟩ ?_
 refine N.obl trivial ?_
 refine N.obl ⟨⟨.inr ⟨_,rfl,rfl⟩,trivial⟩,trivial⟩ ?_
 exact N.true
theorem qbt {ss:List Piece} {h:Hp} {v:Value} {K:Value→Hp→Prop} (W:World) (B:List By) (F:FS) (β:Nat×Nat) (hn:0<F.n) (hβ:flOK F β) (hss:ss.length=2) (hpc:∃ s,ss[0]?=some s∧s.e.x≠Ext.none∧Selfish s.e.x) (hh:∀ k,k<8→h[k]?=(flO W B F β)[k]?)
  (hv:∀ ρ ρ',AgreeOn (Fil (qa7 (flP F) 0 [1] h 0)) ρ ρ'→den ρ' v=den ρ v) (kk:K v (qa7 (flP F) 0 [1] h 0)):N (EndN ss h v K):=by
 refine qhc (ok:=flOK F) (hB:=flH F) β 0 [(0,0),(1,2),(2,3),(3,4),(4,5),(5,6),(6,7)] [1] (fun l i hm' hl=>?_) (fun i hi=>?_) hβ rfl ⟨_,rfl⟩ rfl rfl ?_ (fun k hk l i hm'=>?_) (safeM ((hh 1 (by decide)).trans rfl)) hv (List.getElem?_eq_some_iff.1 ((hh 0 (by decide)).trans rfl)).1 kk
 ·simp only[List.mem_cons,Prod.mk.injEq,List.not_mem_nil,or_false] at hm'
  obtain rfl:i=0:=by omega
  exact hpc
 ·rcases(by omega:i=0∨i=1) with rfl|rfl
  ·exact .inl rfl
  ·exact .inr (List.mem_singleton.2 rfl)
 ·intro l d hl
  match l,hl with
  | 0,hl=>
   obtain rfl:_=d:=by simpa using hl
   exact⟨0,_,rfl,(hh 0 (by decide)).trans rfl,rfl,nlr _,(by first|(refine lt16 ?_ ?_ ?_ ?_ ?_ ?_ ?_ ?_ ?_ ?_ ?_ ?_ ?_ ?_ ?_ ?_<;>first|exact Re1.plain rfl|exact Re1.ptr rfl|exact Re1.slice rfl)|fail),.inl rfl,.inl (by show 0<16;decide)⟩
  | 1,hl=>
   obtain rfl:_=d:=by simpa using hl
   exact⟨2,_,rfl,(hh 2 (by decide)).trans rfl,rfl,nlr _,(by first|(refine lt15 ?_ ?_ ?_ ?_ ?_ ?_ ?_ ?_ ?_ ?_ ?_ ?_ ?_ ?_ ?_<;>first|exact Re1.plain rfl|exact Re1.ptr rfl|exact Re1.slice rfl)|fail),.inl rfl,.inl (by show 0<15;decide)⟩
  | 2,hl=>
   obtain rfl:_=d:=by simpa using hl
   exact⟨3,_,rfl,(hh 3 (by decide)).trans rfl,rfl,nlr _,qa8,.inl rfl,.inl (by show 0<F.n*2;omega)⟩
  | 3,hl=>
   obtain rfl:_=d:=by simpa using hl
   exact⟨4,_,rfl,(hh 4 (by decide)).trans rfl,rfl,nlr _,qay,.inl rfl,.inl hn⟩
  | 4,hl=>
   obtain rfl:_=d:=by simpa using hl
   exact⟨5,_,rfl,(hh 5 (by decide)).trans rfl,rfl,nlr _,(qdm fun _ _=>rfl).re,.inr rfl,.inl hn⟩
  | 5,hl=>
   obtain rfl:_=d:=by simpa using hl
   exact⟨6,_,rfl,(hh 6 (by decide)).trans rfl,rfl,nlr _,pr_ren.re,.inl rfl,.inl (by have:=hβ.2;show 0<β.2;omega)⟩
  | 6,hl=>
   obtain rfl:_=d:=by simpa using hl
   exact⟨7,_,rfl,(hh 7 (by decide)).trans rfl,rfl,nlr _,nzj,.inr rfl,.inr qah⟩
  | l+7,hl=>simp at hl
 ·obtain rfl:=List.mem_singleton.1 hk
  simp only[List.mem_cons,Prod.mk.injEq,List.not_mem_nil,or_false] at hm'
  omega
theorem lt8F {p:Nat→Prop} (h0:p 0) (h1:p 1) (h2:p 2) (h3:p 3) (h4:p 4) (h5:p 5) (h6:p 6) (h7:p 7):∀ k,k<8→p k:=fun k hk=>by
 match k,hk with
 | 0,_=>exact h0
 | 1,_=>exact h1
 | 2,_=>exact h2
 | 3,_=>exact h3
 | 4,_=>exact h4
 | 5,_=>exact h5
 | 6,_=>exact h6
 | 7,_=>exact h7
theorem qos (W:World) (B:List By) (F:FS) (hn:1≤F.n∧F.n≤64) (ht:0≤F.tm∧F.tm≤1000000) (hst:0≤F.st∧F.st≤16777215) (A:List Am) (hA:AirA W B F.L A) (x:Nat) (a:Am) (ha:A[x]?=some a) (hg:F.tm*16777216+min (F.st+1) 16777215<a.tr) (i j:Nat) (hij:i≠j) (h:Hp) (hi:h[i]?=some (some (flP F))) (hj:h[j]?=some (some (memC W B))) :
  CallAll Tryz.prog 28 [.pointer (some ⟨i,0,some 0⟩),.int .i64 (x:Nat)] h fun v ms=>∃ B',(∀ e,e∈B→e∈B')∧v=.int .i64 10∧ms=[(i,flP {F with st:=min (F.st+1) 16777215}),(j,memC W B')]:=by
 have key:=qaj (G:=tys) (h:=h) (vs:=[.pointer (some ⟨i,0,some 0⟩),.int .i64 (x:Nat)]) (flOK F) (flO W B F) (α:=List By) (fun κ=>∀ e,e∈B→e∈κ) (fun κ=>.int .i64 10) [⟨i,flP F,flP F,flP F⟩,⟨j,memC W B,memC W B,memC W B⟩] (fun κ=>[flP {F with st:=min (F.st+1) 16777215},memC W κ]) (fun κ=>[]) [.pointer (some ⟨0,0,some 0⟩),.int .i64 (x:Nat)] tysOK mixed Tryz.func28 (by rfl) (Tryz.call28) ⟨hi,hj,trivial⟩ ⟨⟨fun h=>⟨rfl,nlr _⟩,nlr _,nzj⟩,⟨fun h=>⟨rfl,nlr _⟩,nlr _,nzj⟩,trivial⟩ (fun κ _=>⟨⟨fun h=>⟨rfl,nlr _⟩,nlr _,nzj⟩,⟨fun h=>⟨rfl,nlr _⟩,nlr _,nzj⟩,trivial⟩) (by simp[Apart,hij]) ⟨.inr ⟨rfl,rfl⟩,.inr ⟨rfl,rfl⟩,trivial⟩ (fun κ _=>trivial) ⟨.ptr rfl,.plain rfl,trivial⟩ qbe ?_
 ·refine qae key fun v ms hR=>?_
  obtain⟨κ,hκ,rfl,rfl⟩:=hR
  exact⟨κ,hκ,rfl,rfl⟩
 intro β hβ
 obtain⟨m,hm,hma⟩:=hA.get ha
 have htr:=hma.tr
 skip
 refine N.go ?_
 refine N.callAll (cGetM W B F.L x m a.bs 7 1 (by decide) _ (by rfl) (by rfl) hm hma.src (by have:=hma.len;omega)) fun v ms hR=>?_
 obtain⟨u',B',hmade,rfl,rfl⟩:=hR
 repeat' (refine N.go ?_;first|with_reducible refine N.obl rfl ?_|refine N.forkNo (by decide) ?_|refine N.call (cStep F.C F.n β.1 2 3 4 F.P F.M F.tm F.st true true _ (by rfl) (by rfl) (by rfl) (by decide) (by decide) ht hst) ?_|refine N.forkYes (decide_eq_true (by omega)) ?_|fail)
 refine N.go ?_
 refine qbt W B' {F with st:=min (F.st+1) 16777215} β (by show 0<F.n;omega) hβ rfl ⟨_,rfl,qbk F,qah⟩ (lt8F rfl rfl rfl rfl rfl rfl rfl rfl) (fun ρ ρ' _=>rfl) ?_
 refine N.some B' ⟨qi6 hmade,?_⟩
 refine N.obl (.plain rfl) ?_
 refine N.obl ⟨⟨_,rfl,fun h=>h,nlr _,nzj⟩,⟨_,rfl,fun h=>h,nlr _,nzj⟩,trivial⟩ ?_
 refine N.obl trivial ?_
 refine N.obl ⟨⟨.inr ⟨_,rfl,rfl⟩,.inr ⟨_,rfl,rfl⟩,trivial⟩,trivial⟩ ?_
 exact N.true
open Go Go.RowKit Sx
abbrev gc (x:Int):Chunk:=⟨true,1,[(0,1,.int .i64 x)]⟩
abbrev gcR (x:Int):Chunk:=⟨false,1,[(0,1,.int .i64 x)]⟩
theorem g1 {p:Nat→Prop} (h:p 0):∀ j,j<1→p j:=fun j hj=>by
 obtain rfl:j=0:=by omega
 exact h
theorem qnd (w:World) (ts:Array TypeId) (t:TypeId) (k:IntKind) (x y z:Int):(Builtin.max_ ts t #[.int k x,.int k y,.int k z]).run Tryz.prog w=.ok (.int k (if z > (if y > x then y else x) then z else (if y > x then y else x))) w:=by
 simp[Builtin.max_,Builtin.max2]
theorem N.max3 {ts:Array TypeId} {t:TypeId} {k:IntKind} {x y z:Int} {K:Value→Prop} (h:K (.int k (max (max x y) z))):N (qo4 Tryz.prog .max ts t [.int k x,.int k y,.int k z] K):=by
 refine N.mk ⟨.int k (max (max x y) z),⟨rfl,rfl,fun cs w=>?_⟩,h⟩
 have e:(if y > x then y else x)=max x y:=by split<;>omega
 have e2:(if z > max x y then z else max x y)=max (max x y) z:=by split<;>omega
 show(do pure (Next.value (←Builtin.max_ ts t #[.int k x,.int k y,.int k z])):Sem _).run Tryz.prog w=_
 rw[Sem.run_bind,qnd,e,e2];rfl
abbrev fnV (g:FuncId):Value:=.func (.func g) #[] #[]
theorem qj2 (s t:Nat) (x y bad:Int) (hs:0<s∧s<1073741824) (ht:0<t∧t<1073741824) (hx : -9223372036854775808≤x∧x<9223372036854775808) (hy : -9223372036854775808≤y∧y<9223372036854775808) (i j k:Nat) (h:Hp) (hi:h[i]?=some (some (gc (s:Int)))) (hj:h[j]?=some (some (gc (t:Int)))) (hk:h[k]?=some (some (gc bad))) (hne:i≠j∧i≠k∧j≠k) :
  qad Tryz.prog 132 [fnV 133,.int .i64 x,.int .i64 y,.pointer (some ⟨i,0,some 0⟩),.pointer (some ⟨j,0,some 0⟩),.pointer (some ⟨k,0,some 0⟩)] h (.int .i64 (IntKind.i64.wrap (n64 (-(-(IntKind.i64.wrap ((s:Int)+t)*x) / (s:Int)))+n64 (-(-(IntKind.i64.wrap ((s:Int)+t)*y) / (t:Int)))))) [(k,gc (max (max bad (e64 (-(-(IntKind.i64.wrap ((s:Int)+t)*x) / (s:Int))))) (e64 (-(-(IntKind.i64.wrap ((s:Int)+t)*y) / (t:Int))))))] [i,j]:=by
 have e1:IntKind.i64.wrap ((s:Int)+t)=(s:Int)+t:=i64s _ (by omega) (by omega)
 refine qar (G:=tys) [⟨i,_,gcR (s:Int),⟨false,0,[]⟩⟩,⟨j,_,gcR (t:Int),⟨false,0,[]⟩⟩,⟨k,_,gc bad,gc (max (max bad (e64 (-(-(IntKind.i64.wrap ((s:Int)+t)*x) / (s:Int))))) (e64 (-(-(IntKind.i64.wrap ((s:Int)+t)*y) / (t:Int)))))⟩] [] [fnV 133,.int .i64 x,.int .i64 y,.pointer (some ⟨0,0,some 0⟩),.pointer (some ⟨1,0,some 0⟩),.pointer (some ⟨2,0,some 0⟩)] tysOK mixed Tryz.func132 (by rfl) (Tryz.call132) ⟨hi,hj,hk,trivial⟩ ⟨⟨fun h=>(by cases h),nlr _,g1 (.plain rfl)⟩,⟨fun h=>(by cases h),nlr _,g1 (.plain rfl)⟩,⟨fun h=>⟨rfl,nlr _⟩,nlr _,g1 (.plain rfl)⟩,trivial⟩ (by simp[Apart,hne]) trivial ⟨.plain rfl,.plain rfl,.plain rfl,.ptr rfl,.ptr rfl,.ptr rfl,trivial⟩ ?_
 repeat' (refine N.go ?_;first|refine N.call (qm4 (IntKind.i64.wrap ((s:Int)+t)) x s _ (by omega) (by omega) hx.1 hx.2 (by omega) (by omega)) ?_|refine N.call (qm4 (IntKind.i64.wrap ((s:Int)+t)) y t _ (by omega) (by omega) hy.1 hy.2 (by omega) (by omega)) ?_|with_reducible refine N.max3 ?_|refine N.obl (.plain (by rfl)) ?_|refine N.obl ⟨⟨_,rfl,id,nlr _,g1 (.plain rfl)⟩,trivial⟩ ?_|refine N.obl trivial ?_|exact N.true|fail)
theorem qvv (s t:Nat) (x y bad:Int) (hs:0<s∧s<1073741824) (ht:0<t∧t<1073741824) (hx : -9223372036854775808≤x∧x<9223372036854775808) (hy : -9223372036854775808≤y∧y<9223372036854775808) (i j k:Nat) (h:Hp) (hi:h[i]?=some (some (gc (s:Int)))) (hj:h[j]?=some (some (gc (t:Int)))) (hk:h[k]?=some (some (gc bad))) (hne:i≠j∧i≠k∧j≠k) :
  qad Tryz.prog 132 [fnV 119,.int .i64 x,.int .i64 y,.pointer (some ⟨i,0,some 0⟩),.pointer (some ⟨j,0,some 0⟩),.pointer (some ⟨k,0,some 0⟩)] h (.int .i64 (IntKind.i64.wrap (n64 (IntKind.i64.wrap ((s:Int)+t)*x / (s:Int))+n64 (IntKind.i64.wrap ((s:Int)+t)*y / (t:Int))))) [(k,gc (max (max bad (e64 (IntKind.i64.wrap ((s:Int)+t)*x / (s:Int)))) (e64 (IntKind.i64.wrap ((s:Int)+t)*y / (t:Int)))))] [i,j]:=by
 have e1:IntKind.i64.wrap ((s:Int)+t)=(s:Int)+t:=i64s _ (by omega) (by omega)
 refine qar (G:=tys) [⟨i,_,gcR (s:Int),⟨false,0,[]⟩⟩,⟨j,_,gcR (t:Int),⟨false,0,[]⟩⟩,⟨k,_,gc bad,gc (max (max bad (e64 (IntKind.i64.wrap ((s:Int)+t)*x / (s:Int)))) (e64 (IntKind.i64.wrap ((s:Int)+t)*y / (t:Int))))⟩] [] [fnV 119,.int .i64 x,.int .i64 y,.pointer (some ⟨0,0,some 0⟩),.pointer (some ⟨1,0,some 0⟩),.pointer (some ⟨2,0,some 0⟩)] tysOK mixed Tryz.func132 (by rfl) (Tryz.call132) ⟨hi,hj,hk,trivial⟩ ⟨⟨fun h=>(by cases h),nlr _,g1 (.plain rfl)⟩,⟨fun h=>(by cases h),nlr _,g1 (.plain rfl)⟩,⟨fun h=>⟨rfl,nlr _⟩,nlr _,g1 (.plain rfl)⟩,trivial⟩ (by simp[Apart,hne]) trivial ⟨.plain rfl,.plain rfl,.plain rfl,.ptr rfl,.ptr rfl,.ptr rfl,trivial⟩ ?_
 repeat' (refine N.go ?_;first|refine N.call (qog (IntKind.i64.wrap ((s:Int)+t)) x s _ (by omega) (by omega) hx.1 hx.2 (by omega) (by omega)) ?_|refine N.call (qog (IntKind.i64.wrap ((s:Int)+t)) y t _ (by omega) (by omega) hy.1 hy.2 (by omega) (by omega)) ?_|with_reducible refine N.max3 ?_|refine N.obl (.plain (by rfl)) ?_|refine N.obl ⟨⟨_,rfl,id,nlr _,g1 (.plain rfl)⟩,trivial⟩ ?_|refine N.obl trivial ?_|exact N.true|fail)
def puV (s t:Nat) (x y:Int):Int:=IntKind.i64.wrap (n64 (-(-(IntKind.i64.wrap ((s:Int)+t)*x) / (s:Int)))+n64 (-(-(IntKind.i64.wrap ((s:Int)+t)*y) / (t:Int))))
def plV (s t:Nat) (x y:Int):Int:=IntKind.i64.wrap (n64 (IntKind.i64.wrap ((s:Int)+t)*x / (s:Int))+n64 (IntKind.i64.wrap ((s:Int)+t)*y / (t:Int)))
def puE (s t:Nat) (x y bad:Int):Int:=max (max bad (e64 (-(-(IntKind.i64.wrap ((s:Int)+t)*x) / (s:Int))))) (e64 (-(-(IntKind.i64.wrap ((s:Int)+t)*y) / (t:Int))))
def plE (s t:Nat) (x y bad:Int):Int:=max (max bad (e64 (IntKind.i64.wrap ((s:Int)+t)*x / (s:Int)))) (e64 (IntKind.i64.wrap ((s:Int)+t)*y / (t:Int)))
theorem rad_b {cx cy a b d:Int} (h:mayP cx cy a b d):0<usq (trP cx cy a b d).toNat∧usq (trP cx cy a b d).toNat<1073741824:=by
 have hm:=h
 unfold mayP at hm
 have e:trP cx cy a b d=a+d:=if_pos h
 rw[e]
 have h1:=q4l (a+d).toNat
 have h2:usq (a+d).toNat≤16777216:=q4m (by omega)
 refine⟨?_,by omega⟩
 rcases Nat.eq_zero_or_pos (usq (a+d).toNat) with h0|h0
 ·rw[h0] at h1;omega
 ·exact h0
theorem neF {a:Int} (h:a=0):(!(a==0))=false:=by subst h;rfl
theorem neT {a:Int} (h:¬ a=0):(!(a==0))=true:=by simpa using h
theorem ndF {P:Prop} [Decidable P] (h:P):(!decide P)=false:=by rw[decide_eq_true h];rfl
theorem ndT {P:Prop} [Decidable P] (h:¬ P):(!decide P)=true:=by rw[decide_eq_false h];rfl
theorem q3b (ex ey ea eb ed fx fy fa fb fd:Int) (he:mayP ex ey ea eb ed) (hf:mayP fx fy fa fb fd) (hb:plE (usq (trP ex ey ea eb ed).toNat) (usq (trP fx fy fa fb fd).toNat) eb fb (puE (usq (trP ex ey ea eb ed).toNat) (usq (trP fx fy fa fb fd).toNat) ed fd (puE (usq (trP ex ey ea eb ed).toNat) (usq (trP fx fy fa fb fd).toNat) ea fa 0))=0) (hm:mayP (IntKind.i64.wrap (ex+fx)) (IntKind.i64.wrap (ey+fy)) (IntKind.i64.wrap (puV (usq (trP ex ey ea eb ed).toNat) (usq (trP fx fy fa fb fd).toNat) ea fa+2)) (plV (usq (trP ex ey ea eb ed).toNat) (usq (trP fx fy fa fb fd).toNat) eb fb) (IntKind.i64.wrap (puV (usq (trP ex ey ea eb ed).toNat) (usq (trP fx fy fa fb fd).toNat) ed fd+2))) (w:World):Calls Tryz.prog 107 #[elV ex ey ea eb ed,elV fx fy fa fb fd] w fun e w'=>e=.returned (.tuple #[elV (IntKind.i64.wrap (ex+fx)) (IntKind.i64.wrap (ey+fy)) (IntKind.i64.wrap (puV (usq (trP ex ey ea eb ed).toNat) (usq (trP fx fy fa fb fd).toNat) ea fa+2)) (plV (usq (trP ex ey ea eb ed).toNat) (usq (trP fx fy fa fb fd).toNat) eb fb) (IntKind.i64.wrap (puV (usq (trP ex ey ea eb ed).toNat) (usq (trP fx fy fa fb fd).toNat) ed fd+2)),.int .i64 0])∧Below w.heap.size w w':=by
 have hs:=rad_b he
 have ht:=rad_b hf
 have he2:=he
 have hf2:=hf
 unfold mayP at he2 hf2
 refine qaf (G:=tys) w tysOK mixed Tryz.func107 (by rfl) (by rfl) (by rfl) ?_
 repeat' (refine N.go ?_;first|with_reducible (first|refine N.eq ?_|refine N.obl rfl ?_|refine N.obl ⟨by kernel_rfl,by kernel_rfl⟩ ?_|refine N.alt ?_|refine N.forkF ?_)|refine N.call (cEMay _ _ _ _ _ _) ?_|refine N.call (qn9 _ _ _ _ _ _) ?_|refine N.forkNo (by rw[decide_eq_true he];rfl) ?_|refine N.forkNo (by rw[decide_eq_true hf];rfl) ?_|refine N.call (qj2 (usq (trP ex ey ea eb ed).toNat) (usq (trP fx fy fa fb fd).toNat) ea fa 0 hs ht (by omega) (by omega) 11 12 13 _ (by rfl) (by rfl) (by rfl) (by decide)) ?_|refine N.call (qj2 (usq (trP ex ey ea eb ed).toNat) (usq (trP fx fy fa fb fd).toNat) ed fd _ hs ht (by omega) (by omega) 11 12 13 _ (by rfl) (by rfl) (by rfl) (by decide)) ?_|refine N.call (qvv (usq (trP ex ey ea eb ed).toNat) (usq (trP fx fy fa fb fd).toNat) eb fb _ hs ht (by omega) (by omega) 11 12 13 _ (by rfl) (by rfl) (by rfl) (by decide)) ?_|refine N.forkNo (neF hb) ?_|refine N.forkNo (ndF hm) ?_|fail)
 all_goals rfl
theorem q3c (ex ey ea eb ed fx fy fa fb fd:Int) (he:mayP ex ey ea eb ed) (hf:mayP fx fy fa fb fd) (hb:¬ plE (usq (trP ex ey ea eb ed).toNat) (usq (trP fx fy fa fb fd).toNat) eb fb (puE (usq (trP ex ey ea eb ed).toNat) (usq (trP fx fy fa fb fd).toNat) ed fd (puE (usq (trP ex ey ea eb ed).toNat) (usq (trP fx fy fa fb fd).toNat) ea fa 0))=0) (w:World):Calls Tryz.prog 107 #[elV ex ey ea eb ed,elV fx fy fa fb fd] w fun e w'=>e=.returned (.tuple #[elV 0 0 0 0 0,.int .i64 2])∧Below w.heap.size w w':=by
 have hs:=rad_b he
 have ht:=rad_b hf
 have he2:=he
 have hf2:=hf
 unfold mayP at he2 hf2
 refine qaf (G:=tys) w tysOK mixed Tryz.func107 (by rfl) (by rfl) (by rfl) ?_
 repeat' (refine N.go ?_;first|with_reducible (first|refine N.obl (by decide) ?_|refine N.eq ?_|refine N.obl rfl ?_|refine N.obl ⟨by kernel_rfl,by kernel_rfl⟩ ?_|refine N.alt ?_|refine N.forkT ?_|refine N.forkF ?_)|refine N.call (cEMay _ _ _ _ _ _) ?_|refine N.call (qn9 _ _ _ _ _ _) ?_|refine N.forkNo (by rw[decide_eq_true he];rfl) ?_|refine N.forkNo (by rw[decide_eq_true hf];rfl) ?_|refine N.call (qj2 (usq (trP ex ey ea eb ed).toNat) (usq (trP fx fy fa fb fd).toNat) ea fa 0 hs ht (by omega) (by omega) 11 12 13 _ (by rfl) (by rfl) (by rfl) (by decide)) ?_|refine N.call (qj2 (usq (trP ex ey ea eb ed).toNat) (usq (trP fx fy fa fb fd).toNat) ed fd _ hs ht (by omega) (by omega) 11 12 13 _ (by rfl) (by rfl) (by rfl) (by decide)) ?_|refine N.call (qvv (usq (trP ex ey ea eb ed).toNat) (usq (trP fx fy fa fb fd).toNat) eb fb _ hs ht (by omega) (by omega) 11 12 13 _ (by rfl) (by rfl) (by rfl) (by decide)) ?_|refine N.forkYes (neT hb) ?_|fail)
 all_goals rfl
theorem q3d (ex ey ea eb ed fx fy fa fb fd:Int) (he:mayP ex ey ea eb ed) (hf:mayP fx fy fa fb fd) (hb:plE (usq (trP ex ey ea eb ed).toNat) (usq (trP fx fy fa fb fd).toNat) eb fb (puE (usq (trP ex ey ea eb ed).toNat) (usq (trP fx fy fa fb fd).toNat) ed fd (puE (usq (trP ex ey ea eb ed).toNat) (usq (trP fx fy fa fb fd).toNat) ea fa 0))=0) (hm:¬ mayP (IntKind.i64.wrap (ex+fx)) (IntKind.i64.wrap (ey+fy)) (IntKind.i64.wrap (puV (usq (trP ex ey ea eb ed).toNat) (usq (trP fx fy fa fb fd).toNat) ea fa+2)) (plV (usq (trP ex ey ea eb ed).toNat) (usq (trP fx fy fa fb fd).toNat) eb fb) (IntKind.i64.wrap (puV (usq (trP ex ey ea eb ed).toNat) (usq (trP fx fy fa fb fd).toNat) ed fd+2))) (w:World):Calls Tryz.prog 107 #[elV ex ey ea eb ed,elV fx fy fa fb fd] w fun e w'=>e=.returned (.tuple #[elV 0 0 0 0 0,.int .i64 2])∧Below w.heap.size w w':=by
 have hs:=rad_b he
 have ht:=rad_b hf
 have he2:=he
 have hf2:=hf
 unfold mayP at he2 hf2
 refine qaf (G:=tys) w tysOK mixed Tryz.func107 (by rfl) (by rfl) (by rfl) ?_
 repeat' (refine N.go ?_;first|with_reducible (first|refine N.obl (by decide) ?_|refine N.eq ?_|refine N.obl rfl ?_|refine N.obl ⟨by kernel_rfl,by kernel_rfl⟩ ?_|refine N.alt ?_|refine N.forkF ?_)|refine N.call (cEMay _ _ _ _ _ _) ?_|refine N.call (qn9 _ _ _ _ _ _) ?_|refine N.forkNo (by rw[decide_eq_true he];rfl) ?_|refine N.forkNo (by rw[decide_eq_true hf];rfl) ?_|refine N.call (qj2 (usq (trP ex ey ea eb ed).toNat) (usq (trP fx fy fa fb fd).toNat) ea fa 0 hs ht (by omega) (by omega) 11 12 13 _ (by rfl) (by rfl) (by rfl) (by decide)) ?_|refine N.call (qj2 (usq (trP ex ey ea eb ed).toNat) (usq (trP fx fy fa fb fd).toNat) ed fd _ hs ht (by omega) (by omega) 11 12 13 _ (by rfl) (by rfl) (by rfl) (by decide)) ?_|refine N.call (qvv (usq (trP ex ey ea eb ed).toNat) (usq (trP fx fy fa fb fd).toNat) eb fb _ hs ht (by omega) (by omega) 11 12 13 _ (by rfl) (by rfl) (by rfl) (by decide)) ?_|refine N.forkNo (neF hb) ?_|refine N.forkYes (ndT hm) ?_|fail)
 all_goals rfl
theorem cGSum (ex ey ea eb ed fx fy fa fb fd:Int) (he:mayP ex ey ea eb ed) (hf:mayP fx fy fa fb fd):(∃ x y a b d,mayP x y a b d∧∀ h:Hp,qad Tryz.prog 107 [elV ex ey ea eb ed,elV fx fy fa fb fd] h (.tuple #[elV x y a b d,.int .i64 0]) [] [])∨∀ h:Hp,qad Tryz.prog 107 [elV ex ey ea eb ed,elV fx fy fa fb fd] h (.tuple #[elV 0 0 0 0 0,.int .i64 2]) [] []:=by
 by_cases hb:plE (usq (trP ex ey ea eb ed).toNat) (usq (trP fx fy fa fb fd).toNat) eb fb (puE (usq (trP ex ey ea eb ed).toNat) (usq (trP fx fy fa fb fd).toNat) ed fd (puE (usq (trP ex ey ea eb ed).toNat) (usq (trP fx fy fa fb fd).toNat) ea fa 0))=0
 ·by_cases hm:mayP (IntKind.i64.wrap (ex+fx)) (IntKind.i64.wrap (ey+fy)) (IntKind.i64.wrap (puV (usq (trP ex ey ea eb ed).toNat) (usq (trP fx fy fa fb fd).toNat) ea fa+2)) (plV (usq (trP ex ey ea eb ed).toNat) (usq (trP fx fy fa fb fd).toNat) eb fb) (IntKind.i64.wrap (puV (usq (trP ex ey ea eb ed).toNat) (usq (trP fx fy fa fb fd).toNat) ed fd+2))
  ·exact .inl ⟨_,_,_,_,_,hm,fun h=>qai rfl rfl (Tryz.call107 _) (q3b ex ey ea eb ed fx fy fa fb fd he hf hb hm)⟩
  ·exact .inr fun h=>qai rfl rfl (Tryz.call107 _) (q3d ex ey ea eb ed fx fy fa fb fd he hf hb hm)
 ·exact .inr fun h=>qai rfl rfl (Tryz.call107 _) (q3c ex ey ea eb ed fx fy fa fb fd he hf hb)
theorem qy8 (x y a b d r:Int) (he:mayP x y a b d) (hr:r=0) (w:World):Calls Tryz.prog 80 #[elV x y a b d,.int .i64 r] w fun e w'=>e=.returned (.tuple #[elV x y a b d,.int .i64 0])∧Below w.heap.size w w':=by
 refine qaf (G:=tys) w tysOK mixed Tryz.func80 (by rfl) (by rfl) (by rfl) ?_
 repeat' (refine N.go ?_;first|with_reducible (first|refine N.eq ?_|refine N.obl rfl ?_|refine N.forkF ?_)|refine N.call (cEMay _ _ _ _ _ _) ?_|refine N.forkNo (by rw[decide_eq_true he];rfl) ?_|refine N.forkNo (decide_eq_false (by omega)) ?_|refine N.forkYes (by rw[hr];rfl) ?_|fail)
 all_goals rfl
theorem qqx (x y a b d r:Int) (he:mayP x y a b d) (hr:0<r∧r≤4194304) (x' y' a' b' d' g:Int) (hS:∀ h:Hp,qad Tryz.prog 107 [elV x y a b d,elV 0 0 (r*r) 0 (r*r)] h (.tuple #[elV x' y' a' b' d',.int .i64 g]) [] []) (w:World):Calls Tryz.prog 80 #[elV x y a b d,.int .i64 r] w fun e w'=>e=.returned (.tuple #[elV x' y' a' b' d',.int .i64 g])∧Below w.heap.size w w':=by
 refine qaf (G:=tys) w tysOK mixed Tryz.func80 (by rfl) (by rfl) (by rfl) ?_
 repeat' (refine N.go ?_;first|with_reducible (first|refine N.eq ?_|refine N.obl rfl ?_|refine N.forkF ?_)|refine N.call (cEMay _ _ _ _ _ _) ?_|refine N.forkNo (by rw[decide_eq_true he];rfl) ?_|refine N.forkNo (decide_eq_false (by omega)) ?_|refine N.call (qur 0 0 r _ (by decide) (by omega)) ?_|refine N.forkNo (by decide) ?_|refine N.call (hS _) ?_|fail)
 all_goals rfl
theorem qy9 {x y r:Int} (h:qau 4194304 x y) (hr:0<r∧r≤4194304):mayP x y (r*r) 0 (r*r):=by
 have h1:1*1≤r*r:=Int.mul_le_mul (by omega) (by omega) (by omega) (by omega)
 have h2:r*r≤4194304*4194304:=Int.mul_le_mul (by omega) (by omega) (by omega) (by omega)
 have h3:1*1≤(r*r)*(r*r):=Int.mul_le_mul (by omega) (by omega) (by omega) (by omega)
 refine⟨h,by omega,by omega,by omega,by omega⟩
theorem q5y (x y a b d r:Int) (he:mayP x y a b d) (hr:0≤r∧r≤4194304):(∃ x' y' a' b' d',mayP x' y' a' b' d'∧∀ h:Hp,qad Tryz.prog 80 [elV x y a b d,.int .i64 r] h (.tuple #[elV x' y' a' b' d',.int .i64 0]) [] [])∨∀ h:Hp,qad Tryz.prog 80 [elV x y a b d,.int .i64 r] h (.tuple #[elV 0 0 0 0 0,.int .i64 2]) [] []:=by
 by_cases h0:r=0
 ·exact .inl ⟨_,_,_,_,_,he,fun h=>qai rfl rfl (Tryz.call80 _) (qy8 x y a b d r he h0)⟩
 ·have hr2:0<r∧r≤4194304:=by omega
  rcases cGSum x y a b d 0 0 (r*r) 0 (r*r) he (qy9 (by decide) hr2) with ⟨x',y',a',b',d',hm,hS⟩|hS
  ·exact .inl ⟨_,_,_,_,_,hm,fun h=>qai rfl rfl (Tryz.call80 _) (qqx x y a b d r he hr2 _ _ _ _ _ _ hS)⟩
  ·exact .inr fun h=>qai rfl rfl (Tryz.call80 _) (qqx x y a b d r he hr2 _ _ _ _ _ _ hS)
theorem qot (m:Int) (v:Bool) (x y a b d:Int) (i:Nat) (h:Hp) (hi:h[i]?=some (some (fiC m v x y a b d)))  : qad Tryz.prog 81 [.pointer (some ⟨i,0,some 0⟩)] h (.tuple #[]) [(i,fiC m false 0 0 0 0 0)] []:=by
 refine qar (G:=tys) [⟨i,_,fiC m v x y a b d,fiC m false 0 0 0 0 0⟩] [] [.pointer (some ⟨0,0,some 0⟩)] tysOK mixed Tryz.func81 (by rfl) (Tryz.call81) ⟨hi,trivial⟩ ⟨⟨fun _=>⟨rfl,nlr _⟩,nlr _,re7⟩,trivial⟩ (by simp[Apart]) trivial ⟨.ptr rfl,trivial⟩ ?_
 repeat' (refine N.go ?_;first|with_reducible (first|refine N.obl (by decide) ?_|refine N.forkT ?_)|refine N.obl (.plain (by rfl)) ?_|refine N.obl ⟨⟨_,rfl,id,nlr _,(by first|(refine lt7 ?_ ?_ ?_ ?_ ?_ ?_ ?_<;>exact .plain rfl)|fail)⟩,trivial⟩ ?_|refine N.obl trivial ?_|exact N.true|fail)
theorem qza (m:Int) (x y a b d:Int) (px py r:Int) (i:Nat) (h:Hp) (hi:h[i]?=some (some (fiC m false x y a b d)))  : qad Tryz.prog 53 [.pointer (some ⟨i,0,some 0⟩),.agg #[.int .i64 px,.int .i64 py],.int .i64 r] h (.int .i64 10) [(i,fiC m false x y a b d)] []:=by
 refine qar (G:=tys) [⟨i,_,fiC m false x y a b d,fiC m false x y a b d⟩] [] [.pointer (some ⟨0,0,some 0⟩),.agg #[.int .i64 px,.int .i64 py],.int .i64 r] tysOK mixed Tryz.func53 (by rfl) (Tryz.call53) ⟨hi,trivial⟩ ⟨⟨fun _=>⟨rfl,nlr _⟩,nlr _,re7⟩,trivial⟩ (by simp[Apart]) trivial ⟨.ptr rfl,.plain rfl,.plain rfl,trivial⟩ ?_
 repeat' (refine N.go ?_;first|with_reducible (first|refine N.obl rfl ?_|refine N.forkF ?_)|refine N.forkYes (by decide) ?_|refine N.obl (.plain (by rfl)) ?_|refine N.obl ⟨⟨_,rfl,id,nlr _,(by first|(refine lt7 ?_ ?_ ?_ ?_ ?_ ?_ ?_<;>exact .plain rfl)|fail)⟩,trivial⟩ ?_|refine N.obl trivial ?_|exact N.true|fail)
theorem qzb (m:Int) (x y a b d:Int) (px py r:Int) (i:Nat) (h:Hp) (hi:h[i]?=some (some (fiC m true x y a b d))) (hn:¬ (mayP x y a b d∧qau 4194304 px py)):qad Tryz.prog 53 [.pointer (some ⟨i,0,some 0⟩),.agg #[.int .i64 px,.int .i64 py],.int .i64 r] h (.int .i64 1) [(i,fiC m true x y a b d)] []:=by
 refine qar (G:=tys) [⟨i,_,fiC m true x y a b d,fiC m true x y a b d⟩] [] [.pointer (some ⟨0,0,some 0⟩),.agg #[.int .i64 px,.int .i64 py],.int .i64 r] tysOK mixed Tryz.func53 (by rfl) (Tryz.call53) ⟨hi,trivial⟩ ⟨⟨fun _=>⟨rfl,nlr _⟩,nlr _,re7⟩,trivial⟩ (by simp[Apart]) trivial ⟨.ptr rfl,.plain rfl,.plain rfl,trivial⟩ ?_
 repeat' (refine N.go ?_;first|with_reducible (first|refine N.obl (by decide) ?_|refine N.obl rfl ?_|refine N.alt ?_|refine N.forkF ?_)|refine N.call (q2f x y a b d px py _ hn) ?_|refine N.forkNo (by decide) ?_|refine N.obl (.plain (by rfl)) ?_|refine N.obl ⟨⟨_,rfl,id,nlr _,(by first|(refine lt7 ?_ ?_ ?_ ?_ ?_ ?_ ?_<;>exact .plain rfl)|fail)⟩,trivial⟩ ?_|refine N.obl trivial ?_|exact N.true|fail)
theorem qzc (m:Int) (x y a b d:Int) (px py r:Int) (i:Nat) (h:Hp) (hi:h[i]?=some (some (fiC m true x y a b d))) (hm:mayP x y a b d) (hw:qau 4194304 px py) (hc:¬ qau 4194304 (x+px) (y+py)):qad Tryz.prog 53 [.pointer (some ⟨i,0,some 0⟩),.agg #[.int .i64 px,.int .i64 py],.int .i64 r] h (.int .i64 2) [(i,fiC m false 0 0 0 0 0)] []:=by
 refine qar (G:=tys) [⟨i,_,fiC m true x y a b d,fiC m false 0 0 0 0 0⟩] [] [.pointer (some ⟨0,0,some 0⟩),.agg #[.int .i64 px,.int .i64 py],.int .i64 r] tysOK mixed Tryz.func53 (by rfl) (Tryz.call53) ⟨hi,trivial⟩ ⟨⟨fun _=>⟨rfl,nlr _⟩,nlr _,re7⟩,trivial⟩ (by simp[Apart]) trivial ⟨.ptr rfl,.plain rfl,.plain rfl,trivial⟩ ?_
 repeat' (refine N.go ?_;first|with_reducible (first|refine N.obl (by decide) ?_|refine N.obl rfl ?_|refine N.alt ?_|refine N.forkF ?_)|refine N.call (q2e x y a b d px py _ hm hw hc) ?_|refine N.call (qot m true x y a b d 0 _ (by rfl)) ?_|refine N.forkNo (by decide) ?_|refine N.forkYes (by decide) ?_|refine N.obl (.plain (by rfl)) ?_|refine N.obl ⟨⟨_,rfl,id,nlr _,(by first|(refine lt7 ?_ ?_ ?_ ?_ ?_ ?_ ?_<;>exact .plain rfl)|fail)⟩,trivial⟩ ?_|refine N.obl trivial ?_|exact N.true|fail)
theorem qzd (m:Int) (x y a b d:Int) (px py r:Int) (i:Nat) (h:Hp) (hi:h[i]?=some (some (fiC m true x y a b d))) (hm:mayP x y a b d) (hw:qau 4194304 px py) (hc:qau 4194304 (x+px) (y+py)) (hG:∀ h:Hp,qad Tryz.prog 80 [elV (x+px) (y+py) a b d,.int .i64 r] h (.tuple #[elV 0 0 0 0 0,.int .i64 2]) [] []):qad Tryz.prog 53 [.pointer (some ⟨i,0,some 0⟩),.agg #[.int .i64 px,.int .i64 py],.int .i64 r] h (.int .i64 2) [(i,fiC m false 0 0 0 0 0)] []:=by
 refine qar (G:=tys) [⟨i,_,fiC m true x y a b d,fiC m false 0 0 0 0 0⟩] [] [.pointer (some ⟨0,0,some 0⟩),.agg #[.int .i64 px,.int .i64 py],.int .i64 r] tysOK mixed Tryz.func53 (by rfl) (Tryz.call53) ⟨hi,trivial⟩ ⟨⟨fun _=>⟨rfl,nlr _⟩,nlr _,re7⟩,trivial⟩ (by simp[Apart]) trivial ⟨.ptr rfl,.plain rfl,.plain rfl,trivial⟩ ?_
 repeat' (refine N.go ?_;first|with_reducible (first|refine N.obl (by decide) ?_|refine N.obl rfl ?_|refine N.obl ⟨by kernel_rfl,by kernel_rfl⟩ ?_|refine N.alt ?_|refine N.forkF ?_)|refine N.call (qoa x y a b d px py _ hm hw hc) ?_|refine N.call (hG _) ?_|refine N.call (qot m true x y a b d 0 _ (by rfl)) ?_|refine N.forkNo (by decide) ?_|refine N.forkYes (by decide) ?_|refine N.obl (.plain (by rfl)) ?_|refine N.obl ⟨⟨_,rfl,id,nlr _,(by first|(refine lt7 ?_ ?_ ?_ ?_ ?_ ?_ ?_<;>exact .plain rfl)|fail)⟩,trivial⟩ ?_|refine N.obl trivial ?_|exact N.true|fail)
theorem qze (m:Int) (x y a b d:Int) (px py r:Int) (i:Nat) (h:Hp) (hi:h[i]?=some (some (fiC m true x y a b d))) (hm:mayP x y a b d) (hw:qau 4194304 px py) (hc:qau 4194304 (x+px) (y+py)) (x' y' a' b' d':Int) (hG:∀ h:Hp,qad Tryz.prog 80 [elV (x+px) (y+py) a b d,.int .i64 r] h (.tuple #[elV x' y' a' b' d',.int .i64 0]) [] []) (hm':mayP x' y' a' b' d') (ho:¬ m<a'+d'):qad Tryz.prog 53 [.pointer (some ⟨i,0,some 0⟩),.agg #[.int .i64 px,.int .i64 py],.int .i64 r] h (.int .i64 0) [(i,fiC m true x' y' a' b' d')] []:=by
 refine qar (G:=tys) [⟨i,_,fiC m true x y a b d,fiC m true x' y' a' b' d'⟩] [] [.pointer (some ⟨0,0,some 0⟩),.agg #[.int .i64 px,.int .i64 py],.int .i64 r] tysOK mixed Tryz.func53 (by rfl) (Tryz.call53) ⟨hi,trivial⟩ ⟨⟨fun _=>⟨rfl,nlr _⟩,nlr _,re7⟩,trivial⟩ (by simp[Apart]) trivial ⟨.ptr rfl,.plain rfl,.plain rfl,trivial⟩ ?_
 repeat' (refine N.go ?_;first|with_reducible (first|refine N.obl rfl ?_|refine N.obl ⟨by kernel_rfl,by kernel_rfl⟩ ?_|refine N.alt ?_|refine N.forkF ?_)|refine N.call (qoa x y a b d px py _ hm hw hc) ?_|refine N.call (hG _) ?_|refine N.call (quu m true x y a b d x' y' a' b' d' 0 _ (by rfl) hm' ho) ?_|refine N.forkNo (by decide) ?_|refine N.forkYes (by decide) ?_|refine N.obl (.plain (by rfl)) ?_|refine N.obl ⟨⟨_,rfl,id,nlr _,(by first|(refine lt7 ?_ ?_ ?_ ?_ ?_ ?_ ?_<;>exact .plain rfl)|fail)⟩,trivial⟩ ?_|refine N.obl trivial ?_|exact N.true|fail)
theorem qzf (m:Int) (x y a b d:Int) (px py r:Int) (i:Nat) (h:Hp) (hi:h[i]?=some (some (fiC m true x y a b d))) (hm:mayP x y a b d) (hw:qau 4194304 px py) (hc:qau 4194304 (x+px) (y+py)) (x' y' a' b' d':Int) (hG:∀ h:Hp,qad Tryz.prog 80 [elV (x+px) (y+py) a b d,.int .i64 r] h (.tuple #[elV x' y' a' b' d',.int .i64 0]) [] []) (hm':mayP x' y' a' b' d') (ho:m<a'+d'):qad Tryz.prog 53 [.pointer (some ⟨i,0,some 0⟩),.agg #[.int .i64 px,.int .i64 py],.int .i64 r] h (.int .i64 2) [(i,fiC m false 0 0 0 0 0)] []:=by
 refine qar (G:=tys) [⟨i,_,fiC m true x y a b d,fiC m false 0 0 0 0 0⟩] [] [.pointer (some ⟨0,0,some 0⟩),.agg #[.int .i64 px,.int .i64 py],.int .i64 r] tysOK mixed Tryz.func53 (by rfl) (Tryz.call53) ⟨hi,trivial⟩ ⟨⟨fun _=>⟨rfl,nlr _⟩,nlr _,re7⟩,trivial⟩ (by simp[Apart]) trivial ⟨.ptr rfl,.plain rfl,.plain rfl,trivial⟩ ?_
 repeat' (refine N.go ?_;first|with_reducible (first|refine N.obl rfl ?_|refine N.obl ⟨by kernel_rfl,by kernel_rfl⟩ ?_|refine N.alt ?_|refine N.forkF ?_)|refine N.call (qoa x y a b d px py _ hm hw hc) ?_|refine N.call (hG _) ?_|refine N.call (qut m true x y a b d x' y' a' b' d' 0 _ (by rfl) hm' ho) ?_|refine N.call (qot m true x y a b d 0 _ (by rfl)) ?_|refine N.forkNo (by decide) ?_|refine N.forkYes (by decide) ?_|refine N.obl (.plain (by rfl)) ?_|refine N.obl ⟨⟨_,rfl,id,nlr _,(by first|(refine lt7 ?_ ?_ ?_ ?_ ?_ ?_ ?_<;>exact .plain rfl)|fail)⟩,trivial⟩ ?_|refine N.obl trivial ?_|exact N.true|fail)
theorem qvw {x y a b d x' y':Int} (h:mayP x y a b d) (hw:qau 4194304 x' y'):mayP x' y' a b d:=⟨hw,h.2⟩
theorem q3e (m:Int) (v:Bool) (x y a b d px py r:Int) (hv:v=true→mayP x y a b d) (hr:0≤r∧r≤4194304):∃ (v':Bool) (x' y' a' b' d' g:Int),(v'=true→v=true∧mayP x' y' a' b' d')∧∀ (i:Nat) (h:Hp),h[i]?=some (some (fiC m v x y a b d))→qad Tryz.prog 53 [.pointer (some ⟨i,0,some 0⟩),.agg #[.int .i64 px,.int .i64 py],.int .i64 r] h (.int .i64 g) [(i,fiC m v' x' y' a' b' d')] []:=by
 have nf:∀ {p:Prop},false=true→p:=fun h=>by cases h
 cases hv0:v with
 | false=>exact⟨false,x,y,a,b,d,10,nf,fun i h hi=>qza m x y a b d px py r i h hi⟩
 | true=>
  have hm:=hv hv0
  by_cases hw:qau 4194304 px py
  ·by_cases hc:qau 4194304 (x+px) (y+py)
   ·rcases q5y (x+px) (y+py) a b d r (qvw hm hc) hr with ⟨x',y',a',b',d',hm',hG⟩|hG
    ·by_cases ho:m<a'+d'
     ·exact⟨false,0,0,0,0,0,2,nf,fun i h hi=>qzf m x y a b d px py r i h hi hm hw hc x' y' a' b' d' hG hm' ho⟩
     ·exact⟨true,x',y',a',b',d',0,fun _=>⟨rfl,hm'⟩,fun i h hi=>qze m x y a b d px py r i h hi hm hw hc x' y' a' b' d' hG hm' ho⟩
    ·exact⟨false,0,0,0,0,0,2,nf,fun i h hi=>qzd m x y a b d px py r i h hi hm hw hc hG⟩
   ·exact⟨false,0,0,0,0,0,2,nf,fun i h hi=>qzc m x y a b d px py r i h hi hm hw hc⟩
  ·exact⟨true,x,y,a,b,d,1,fun _=>⟨rfl,hm⟩,fun i h hi=>qzb m x y a b d px py r i h hi (fun h=>hw h.2)⟩
open Go Go.RowKit Sx
theorem q3f (s:NSt)   (i:Nat) (h:Hp) (hi:h[i]?=some (some (ndP s))) :
  qad Tryz.prog 98 [.pointer (some ⟨i,0,some 0⟩)] h (.int .i64 s.boot) [(i,ndP s)] []:=by
 refine qax (G:=tys) (fun _:Nat→Nat×Nat=>True) (ndH s) [⟨i,ndP s,ndP s,ndP s⟩] [] [.pointer (some ⟨0,0,some 0⟩)] tysOK mixed Tryz.func98 (by rfl) (Tryz.call98) ⟨hi,trivial⟩ ⟨⟨fun h=>⟨rfl,nlr _⟩,nlr _,nzj⟩,trivial⟩ (by simp[Apart]) ⟨.inr ⟨rfl,rfl⟩,trivial⟩ trivial ⟨.ptr rfl,trivial⟩ qat ?_
 intro g _
 repeat' (refine N.go ?_;first|with_reducible refine N.forkF ?_|fail)
 refine N.go ?_
 refine qd2 s g 0 1 2 3 4 [] qeh (fun i hi=>.inl (by simpa using hi)) (by rfl) rfl rfl (ndRe (D:=s.nd g) (f:=1) (t:=2) (b:=3) (m:=4) (f':=1) (t':=2) (b':=3) (m':=4) (by rfl) (by rfl) (by rfl) (by rfl)) (by rfl) rfl rfl re7 (by rfl) (by rfl) rfl rfl re2 (by rfl) rfl rfl re2 (by rfl) (fun k hk=>by cases hk) (fun k hk=>by cases hk) (qfa rfl) ?_
 refine N.obl (.plain rfl) ?_
 refine N.obl ⟨⟨_,rfl,fun h=>h,nlr _,nzj⟩,trivial⟩ ?_
 refine N.obl trivial ?_
 refine N.obl ⟨⟨.inr ⟨_,rfl,rfl⟩,trivial⟩,trivial⟩ ?_
 exact N.true
theorem qzg (s:NSt) (px py:Int) (v:Bool) (x y a b d gg:Int) (hF:∀ i h,h[i]?=some (some (fiC s.fm s.fv s.fx s.fy s.fa s.fb s.fd))→qad Tryz.prog 53 [.pointer (some ⟨i,0,some 0⟩),.agg #[.int .i64 px,.int .i64 py],.int .i64 (s.C 3)] h (.int .i64 gg) [(i,fiC s.fm v x y a b d)] []) (i:Nat) (h:Hp) (hi:h[i]?=some (some (ndP s))) :
  qad Tryz.prog 26 [.pointer (some ⟨i,0,some 0⟩),.agg #[.int .i64 px,.int .i64 py]] h (.tuple #[]) [(i,ndP {s with fv:=v,fx:=x,fy:=y,fa:=a,fb:=b,fd:=d})] []:=by
 refine qax (G:=tys) (fun _:Nat→Nat×Nat=>True) (ndH s) [⟨i,ndP s,ndP s,ndP {s with fv:=v,fx:=x,fy:=y,fa:=a,fb:=b,fd:=d}⟩] [] [.pointer (some ⟨0,0,some 0⟩),.agg #[.int .i64 px,.int .i64 py]] tysOK mixed Tryz.func26 (by rfl) (Tryz.call26) ⟨hi,trivial⟩ ⟨⟨fun h=>⟨rfl,nlr _⟩,nlr _,nzj⟩,trivial⟩ (by simp[Apart]) ⟨.inr ⟨rfl,rfl⟩,trivial⟩ trivial ⟨.ptr rfl,.plain rfl,trivial⟩ qat ?_
 intro g _
 repeat' (refine N.go ?_;first|with_reducible (first|refine N.obl rfl ?_|refine N.obl ⟨by kernel_rfl,by kernel_rfl⟩ ?_|refine N.alt ?_|refine N.forkT ?_)|refine N.call (hF 1 _ (by rfl)) ?_|fail)
 refine N.go ?_
 refine qd2 {s with fv:=v,fx:=x,fy:=y,fa:=a,fb:=b,fd:=d} g 0 1 2 3 4 [] qeh (fun i hi=>.inl (by simpa using hi)) (by rfl) rfl rfl (ndRe (D:=s.nd g) (f:=1) (t:=2) (b:=3) (m:=4) (f':=1) (t':=2) (b':=3) (m':=4) (by rfl) (by rfl) (by rfl) (by rfl)) (by rfl) rfl rfl re7 (by rfl) (by rfl) rfl rfl re2 (by rfl) rfl rfl re2 (by rfl) (fun k hk=>by cases hk) (fun k hk=>by cases hk) (qfa rfl) ?_
 refine N.obl (.plain rfl) ?_
 refine N.obl ⟨⟨_,rfl,fun h=>h,nlr _,nzj⟩,trivial⟩ ?_
 refine N.obl trivial ?_
 refine N.obl ⟨⟨.inr ⟨_,rfl,rfl⟩,trivial⟩,trivial⟩ ?_
 exact N.true
theorem q3g (s:NSt) (px py:Int) (hv:s.fv=true→mayP s.fx s.fy s.fa s.fb s.fd) (he:0≤s.C 3∧s.C 3≤4194304):∃ (v:Bool) (x y a b d:Int),(v=true→s.fv=true∧mayP x y a b d)∧∀ (i:Nat) (h:Hp),h[i]?=some (some (ndP s))→qad Tryz.prog 26 [.pointer (some ⟨i,0,some 0⟩),.agg #[.int .i64 px,.int .i64 py]] h (.tuple #[]) [(i,ndP {s with fv:=v,fx:=x,fy:=y,fa:=a,fb:=b,fd:=d})] []:=by
 obtain⟨v,x,y,a,b,d,g,h1,h2⟩:=q3e s.fm s.fv s.fx s.fy s.fa s.fb s.fd px py (s.C 3) hv he
 exact⟨v,x,y,a,b,d,h1,fun i h hi=>qzg s px py v x y a b d g h2 i h hi⟩
theorem qzh (s:NSt) (now fine:Int) (hbl:0<s.bl∧s.bl<1000) (hs:0≤s.seq∧s.seq<65535) (hb:0≤s.boot∧s.boot≤65535) (i K:Nat) (h:Hp) (hi:h[i]?=some (some (ndP s))) (hK:h[K]?=some none) :
  CallAll Tryz.prog 65 [.pointer (some ⟨i,0,some 0⟩),.int .i64 now,.int .i64 fine] h (fun v ms=>∃ κ:Nat,1≤κ∧v=.slice (some ⟨K,0,some 0⟩) 1 κ∧ms=[(i,ndP {s with bl:=s.bl-1,seq:=s.seq+1}),(K,outC (outV 7 s.id s.boot s.seq now 0 0 0 0 0 0 0 0 0 0 fine))]):=by
 have key:=qaj (G:=tys) (h:=h) (vs:=[.pointer (some ⟨i,0,some 0⟩),.int .i64 now,.int .i64 fine]) (fun _:Nat→Nat×Nat=>True) (ndH s) (α:=Nat) (fun κ=>1≤κ) (fun κ=>.slice (some ⟨K,0,some 0⟩) 1 κ) [⟨i,ndP s,ndP s,ndP s⟩] (fun _=>[ndP {s with bl:=s.bl-1,seq:=s.seq+1}]) (fun κ=>[⟨K,6,outC (outV 7 s.id s.boot s.seq now 0 0 0 0 0 0 0 0 0 0 fine)⟩]) [.pointer (some ⟨0,0,some 0⟩),.int .i64 now,.int .i64 fine] tysOK mixed Tryz.func65 (by rfl) (Tryz.call65) ⟨hi,trivial⟩ ⟨⟨fun h=>⟨rfl,nlr _⟩,nlr _,nzj⟩,trivial⟩ (fun κ _=>⟨⟨fun h=>⟨rfl,nlr _⟩,nlr _,nzj⟩,trivial⟩) (by simp[Apart]) ⟨.inr ⟨rfl,rfl⟩,trivial⟩ (fun κ hκ=>⟨⟨hK,rfl,.inl (by show 0<16;decide),by simp⟩,trivial⟩) ⟨.ptr rfl,.plain rfl,.plain rfl,trivial⟩ qat ?_
 ·refine qae key fun v ms hR=>?_
  obtain⟨κ,hκ,rfl,rfl⟩:=hR
  exact⟨κ,hκ,rfl,rfl⟩
 intro g _
 repeat' (refine N.go ?_;first|with_reducible (first|refine N.obl rfl ?_|refine N.forkF ?_)|fail)
 refine N.go ?_
 refine N.callAll (qu0 (s.nd g) now fine s.bn s.bl 7 0 0 0 0 0 0 0 0 0 0 0 0 0 0 (by omega) hs hb 5 0 1 2 3 4 6 _ _ _ _ (by rfl) (by rfl) (by rfl) (by rfl) (by rfl) (by rfl) (by rfl) (by decide)) fun v ms hR=>?_
 obtain⟨κ,hκ,rfl,rfl⟩:=hR
 skip
 refine N.go ?_
 refine qd2 {s with bl:=s.bl-1,seq:=s.seq+1} g 0 1 2 3 4 [6] qeh (fun i hi=>.inl (by simpa using hi)) (by rfl) rfl rfl (ndRe (D:={s.nd g with seq:=s.seq+1}) (f:=1) (t:=2) (b:=3) (m:=4) (f':=1) (t':=2) (b':=3) (m':=4) (by rfl) (by rfl) (by rfl) (by rfl)) (by rfl) rfl rfl re7 (by rfl) (by rfl) rfl rfl re2 (by rfl) rfl rfl re2 (by rfl) (fun k hk=>by simp at hk;omega) (fun k hk d hd l hl=>?_) (fun ρ ρ' ha=>by have:=ha 6 ⟨_,rfl⟩;simp[den,den2,den1,den0,denA,this]) ?_
 ·obtain rfl:k=6:=by simpa using hk
  obtain rfl:outC _=d:=by simpa using hd
  have hl:l<16:=hl
  generalize qa7 _ _ _ _ _=HH
  exact lt16 (p:=fun j=>Safe1 HH (Chunk.f (outC (outV 7 s.id s.boot s.seq now 0 0 0 0 0 0 0 0 0 0 fine)) j)) trivial trivial trivial trivial trivial trivial trivial trivial trivial trivial trivial trivial trivial trivial trivial trivial l hl
 refine N.some κ ⟨hκ,?_⟩
 refine N.obl (.one (.slice (by rfl))) ?_
 refine N.obl ⟨⟨_,rfl,id,nlr _,nzj⟩,trivial⟩ ?_
 refine N.obl ⟨⟨Nat.le_of_ble_eq_true rfl,_,rfl,id,nlr _,(by first|(refine lt16 ?_ ?_ ?_ ?_ ?_ ?_ ?_ ?_ ?_ ?_ ?_ ?_ ?_ ?_ ?_ ?_<;>exact .plain rfl)|fail)⟩,trivial⟩ ?_
 refine N.obl ⟨⟨.inr ⟨_,rfl,rfl⟩,trivial⟩,.inl rfl,trivial⟩ ?_
 exact N.true
abbrev stepV (k nd n px py qx qy ex ey ea eb ed x b:Int) (u:Value):Value:=.agg ⟨[.int .i64 k,.int .i64 nd,.int .i64 n,.int .i64 px,.int .i64 py,.int .i64 qx,.int .i64 qy,.int .i64 ex,.int .i64 ey,.int .i64 ea,.int .i64 eb,.int .i64 ed,.int .i64 x,.int .u8 b,u]⟩
theorem qvx (W:World) (B:List By) (F:FS) (hn:1≤F.n∧F.n≤64) (h4:0≤F.C 4∧F.C 4≤100) (h5:0≤F.C 5∧F.C 5≤1000) (ht:0≤F.tm∧F.tm<750000) (hl:0≤F.lost∧F.lost≤1000000) (A:List Am) (hA:AirA W B F.L A) (hN:∀ m,m<F.n→NdOK (F.s m)) (i j:Nat) (hij:i≠j) (h:Hp) (hi:h[i]?=some (some (flP F))) (hj:h[j]?=some (some (memC W B))) :
  CallAll Tryz.prog 10 [.pointer (some ⟨i,0,some 0⟩),stepV 2 0 0 0 0 0 0 0 0 0 0 0 0 0 (.slice none 0 0)] h fun v ms=>∃ L' B',AirA W B' L' (tickZ F A F.n).2.1∧(∀ e,e∈B→e∈B')∧v=.int .i64 0∧ms=[(i,flP (tickF F L' (tickZ F A F.n))),(j,memC W B')]:=by
 have key:=qaj (G:=tys) (h:=h) (vs:=[.pointer (some ⟨i,0,some 0⟩),stepV 2 0 0 0 0 0 0 0 0 0 0 0 0 0 (.slice none 0 0)]) (fun _:Unit=>True) (fun _=>_) (α:=List Ml×List By) (fun κ=>AirA W κ.2 κ.1 (tickZ F A F.n).2.1∧∀ e,e∈B→e∈κ.2) (fun κ=>.int .i64 0) [⟨i,flP F,flP F,flP F⟩,⟨j,memC W B,memC W B,memC W B⟩] (fun κ=>[flP (tickF F κ.1 (tickZ F A F.n)),memC W κ.2]) (fun κ=>[]) [.pointer (some ⟨0,0,some 0⟩),stepV 2 0 0 0 0 0 0 0 0 0 0 0 0 0 (.slice none 0 0)] tysOK mixed Tryz.func10 (by rfl) (Tryz.call10) ⟨hi,hj,trivial⟩ ⟨⟨fun h=>⟨rfl,nlr _⟩,nlr _,nzj⟩,⟨fun h=>⟨rfl,nlr _⟩,nlr _,nzj⟩,trivial⟩ (fun κ _=>⟨⟨fun h=>⟨rfl,nlr _⟩,nlr _,nzj⟩,⟨fun h=>⟨rfl,nlr _⟩,nlr _,nzj⟩,trivial⟩) (by simp[Apart,hij]) ⟨.inr ⟨rfl,rfl⟩,.inr ⟨rfl,rfl⟩,trivial⟩ (fun κ _=>trivial) ⟨.ptr rfl,.plain rfl,trivial⟩ Opens.same ?_
 ·refine qae key fun v ms hR=>?_
  obtain⟨κ,hκ,rfl,rfl⟩:=hR
  exact⟨κ.1,κ.2,hκ.1,hκ.2,rfl,rfl⟩
 rintro⟨⟩ -
 repeat' (refine N.go ?_;first|with_reducible (first|refine N.obl (by decide) ?_|refine N.forkF ?_)|refine N.forkNo (by decide) ?_|refine N.forkYes (by decide) ?_|fail)
 refine N.go ?_
 refine N.callAll (qqw W B F hn h4 h5 ht hl A hA hN 0 1 (by decide) _ (by rfl) (by rfl)) fun v ms hR=>?_
 obtain⟨L',B',hA',hM',rfl,rfl⟩:=hR
 skip
 refine N.go ?_
 refine N.endSame ?_
 refine N.some (L',B') ⟨⟨hA',hM'⟩,?_⟩
 refine N.obl (.plain rfl) ?_
 refine N.obl ⟨⟨_,rfl,fun h=>h,nlr _,nzj⟩,⟨_,rfl,fun h=>h,nlr _,nzj⟩,trivial⟩ ?_
 refine N.obl trivial ?_
 refine N.obl ⟨⟨.inr ⟨_,rfl,rfl⟩,.inr ⟨_,rfl,rfl⟩,trivial⟩,trivial⟩ ?_
 exact N.true
open Go Go.RowKit Sx
abbrev noW:World:=default
theorem qhw:noW.heap.size=0:=rfl
theorem q5z {X:Ctx} {ρ:Nat→Nat×Nat} {h:Hp} {w:World} {i:Nat} {c:Chunk} (H:HOK X ρ h w) (hi:h[i]?=some (some c)) (ho:c.own=true):HOK X ρ (h.set i (some (memC noW []))) w:=by
 obtain⟨S,E⟩:=H.ext
 refine H.turnX E hi (d:=memC noW []) (S':=fun _=>False) (fun _=>ho) (Nat.zero_le _) (nzj) rfl rfl rfl (nlr _) (fun b _ _=>rfl) (fun b hb=>hb.elim) ?_
 refine⟨fun h=>absurd h (by rw[qhw];decide),fun b=>⟨fun h=>h.elim,fun h=>?_⟩,by rw[qhw];exact Nat.zero_le _,fun b hb=>absurd hb (by rw[qhw];exact Nat.not_lt_zero b),List.nodup_nil,fun e he=>by cases he⟩
 rcases h with h|⟨e,he,_⟩
 ·rw[qhw] at h;exact absurd h (Nat.not_lt_zero b)
 ·cases he
theorem qru {P:Program} {g:FuncId} {vs:List Value} {h:Hp} {R:Value→List (Nat×Chunk)→Prop} (i:Nat) {c:Chunk} (hi:h[i]?=some (some c)) (ho:c.own=true)
  (hc:CallAll P g vs (h.set i (some (memC noW []))) R) (hm:∀ v ms,R v ms→modH (h.set i (some (memC noW []))) ms=modH h ms):CallAll P g vs h R:=fun X ρ w xs H hx=>by
 have hil:=(List.getElem?_eq_some_iff.1 hi).1
 have fil:∀ j,Fil h j→Fil (h.set i (some (memC noW []))) j:=fun j hj=>hj.set
 have key:=hc X ρ w xs (q5z H hi ho) (qf3 hx fun v _ x hd=>hd.more (AgreeOn.refl _ _) fil)
 have fix:∀ x w',(∃ v ms ρ',R v ms∧AgreeOn (Fil (h.set i (some (memC noW [])))) ρ ρ'∧HOK X ρ' (modH (h.set i (some (memC noW []))) ms) w'∧Den (Fil (modH (h.set i (some (memC noW []))) ms)) ρ' v x)→∃ v ms ρ',R v ms∧AgreeOn (Fil h) ρ ρ'∧HOK X ρ' (modH h ms) w'∧Den (Fil (modH h ms)) ρ' v x:=by
  rintro x w' ⟨v,ms,ρ',hr,ha,hh,hd⟩
  rw[hm v ms hr] at hh hd
  exact⟨v,ms,ρ',hr,fun j hj=>ha j (fil j hj),hh,hd⟩
 rcases key with ⟨x,w',h1,h2⟩|⟨h1,h2⟩
 ·exact .inl ⟨x,w',h1,fix _ _ h2⟩
 ·refine .inr ⟨h1,h2.mono ?_⟩
  rintro e w' ⟨x,he,h3⟩
  exact⟨x,he,fix _ _ h3⟩
theorem qne (n m:Nat) (g:Nat→Nat×Nat) (s:Nat→NSt) (hm:m<n) (i k:Nat) {c:Nat} {ps:List (Nat×Nat×Value)} (h:Hp) (hi:h[i]?=some (some (@Chunk.mk (manyX ndX n g s) true c ps))) (hk:h[k]?=some none) :
  CallAll Tryz.prog 98 [realP (g m)] h fun v ms=>v=.int .i64 (s m).boot∧ms=[(i,@Chunk.mk (manyX ndX n g s) true c ps)]:=by
 have hkl:=(List.getElem?_eq_some_iff.1 hk).1
 have key:=q3f (s m) k ((h.set i (some (@Chunk.mk (wandX (fun a=>manyX ndX n g (upd s m a)) ndX (g m)) true c ps))).set k (some (@Chunk.mk (ndX (s m)) true 0 []))) (List.getElem?_set_self (by simpa using hkl))
 have hs:upd s m (s m)=s:=qco s m
 have hi2:h[i]?=some (some (@Chunk.mk (manyX ndX n g (upd s m (s m))) true c ps)):=by rw[hs];exact hi
 refine qdg (vs':=[.pointer (some ⟨k,0,some 0⟩)]) (Y:=fun a=>manyX ndX n g (upd s m a)) (Z:=ndX) (q:=g m) (a:=s m) i k hi2 hk (qdh ndX g s hm (s m) rfl) qdt ⟨.ptr,trivial⟩ (qbn key) fun v ms hR=>?_
 obtain⟨rfl,rfl⟩:=hR
 refine⟨s m,[],?_,(fun m hm=>by cases hm),fun r r' _=>rfl,rfl,?_⟩
 ·show List.set _ _ _=_
  rw[List.set_set]
  rfl
 ·rw[hs]
theorem qvy (n m:Nat) (g:Nat→Nat×Nat) (s:Nat→NSt) (hm:m<n) (px py:Int) (s':NSt) (hM:∀ (i:Nat) (h:Hp),h[i]?=some (some (ndP (s m)))→qad Tryz.prog 26 [.pointer (some ⟨i,0,some 0⟩),.agg #[.int .i64 px,.int .i64 py]] h (.tuple #[]) [(i,ndP s')] []) (i k:Nat) {c:Nat} {ps:List (Nat×Nat×Value)} (h:Hp) (hi:h[i]?=some (some (@Chunk.mk (manyX ndX n g s) true c ps))) (hk:h[k]?=some none) :
  CallAll Tryz.prog 26 [realP (g m),.agg #[.int .i64 px,.int .i64 py]] h fun v ms=>v=.tuple #[]∧ms=[(i,@Chunk.mk (manyX ndX n g (upd s m s')) true c ps)]:=by
 have hkl:=(List.getElem?_eq_some_iff.1 hk).1
 have key:=hM k ((h.set i (some (@Chunk.mk (wandX (fun a=>manyX ndX n g (upd s m a)) ndX (g m)) true c ps))).set k (some (@Chunk.mk (ndX (s m)) true 0 []))) (List.getElem?_set_self (by simpa using hkl))
 rw[←qco s m] at hi
 refine qdg (vs':=[.pointer (some ⟨k,0,some 0⟩),.agg #[.int .i64 px,.int .i64 py]]) (Y:=fun a=>manyX ndX n g (upd s m a)) (Z:=ndX) (q:=g m) (a:=s m) i k hi hk (qdh ndX g s hm (s m) rfl) qdt ⟨.ptr,.same _,trivial⟩ (qbn key) fun v ms hR=>?_
 obtain⟨rfl,rfl⟩:=hR
 refine⟨s',[],?_,(fun m hm=>by cases hm),fun r r' _=>by simp[den,den2,den1,den0,denA],rfl,rfl⟩
 show List.set _ _ _=_
 rw[List.set_set]
 rfl
theorem qrv (n m:Nat) (g:Nat→Nat×Nat) (s:Nat→NSt) (hm:m<n) (hbl:0<(s m).bl∧(s m).bl<1000) (hsq:0≤(s m).seq∧(s m).seq<65535) (hb:0≤(s m).boot∧(s m).boot≤65535) (now fine:Int) (i k K:Nat) (hkK:k≠K) {c:Nat} {ps:List (Nat×Nat×Value)} (h:Hp) (hi:h[i]?=some (some (@Chunk.mk (manyX ndX n g s) true c ps))) (hk:h[k]?=some none) (hK:h[K]?=some none) :
  CallAll Tryz.prog 65 [realP (g m),.int .i64 now,.int .i64 fine] h fun v ms=>∃ κ:Nat,1≤κ∧v=.slice (some ⟨K,0,some 0⟩) 1 κ∧ms=[(i,@Chunk.mk (manyX ndX n g (upd s m {s m with bl:=(s m).bl-1,seq:=(s m).seq+1})) true c ps),(K,outC (outV 7 (s m).id (s m).boot (s m).seq now 0 0 0 0 0 0 0 0 0 0 fine))]:=by
 have hkl:=(List.getElem?_eq_some_iff.1 hk).1
 have hiK:i≠K:=fun e=>by rw[e,hK] at hi;cases hi
 have key:=qzh (s m) now fine hbl hsq hb k K ((h.set i (some (@Chunk.mk (wandX (fun a=>manyX ndX n g (upd s m a)) ndX (g m)) true c ps))).set k (some (@Chunk.mk (ndX (s m)) true 0 []))) (List.getElem?_set_self (by simpa using hkl)) (by rw[List.getElem?_set_ne hkK,List.getElem?_set_ne hiK];exact hK)
 rw[←qco s m] at hi
 refine qdg (vs':=[.pointer (some ⟨k,0,some 0⟩),.int .i64 now,.int .i64 fine]) (Y:=fun a=>manyX ndX n g (upd s m a)) (Z:=ndX) (q:=g m) (a:=s m) i k hi hk (qdh ndX g s hm (s m) rfl) qdt ⟨.ptr,.same _,.same _,trivial⟩ key fun v ms hR=>?_
 obtain⟨κ,hκ,rfl,rfl⟩:=hR
 refine⟨{s m with bl:=(s m).bl-1,seq:=(s m).seq+1},[(K,outC (outV 7 (s m).id (s m).boot (s m).seq now 0 0 0 0 0 0 0 0 0 0 fine))],?_,(fun x hx=>?_),fun r r' hr=>?_,κ,hκ,rfl,rfl⟩
 ·show List.set (List.set _ _ _) _ _=List.set (List.set _ _ _) _ _
  rw[List.set_set]
 ·obtain rfl:=List.mem_singleton.1 hx
  refine⟨Ne.symm hiK,Ne.symm hkK,fun l hl r r' _=>?_⟩
  exact lt16 (p:=fun j=>den1 r (Chunk.f (outC (outV 7 (s m).id (s m).boot (s m).seq now 0 0 0 0 0 0 0 0 0 0 fine)) j)=den1 r' (Chunk.f (outC (outV 7 (s m).id (s m).boot (s m).seq now 0 0 0 0 0 0 0 0 0 0 fine)) j)) rfl rfl rfl rfl rfl rfl rfl rfl rfl rfl rfl rfl rfl rfl rfl rfl l hl
 ·simp[den,den2,den1,den0,denA,hr K (Ne.symm hkK)]
theorem qqy (n m:Nat) (g:Nat→Nat×Nat) (s:Nat→NSt) (hm:m<n) (a:NSt) (vs:List Value) (b k:Nat) {o:Bool} {c:Nat} {ps:List (Nat×Nat×Value)} (h:Hp) (hb:h[b]?=some (some (@Chunk.mk (manyX ndX n g s) o c ps))) (hk:h[k]?=some none)
  (hN:∀ (K:Nat) (h:Hp),h[K]?=some none→qad Tryz.prog 24 vs h (.pointer (some ⟨K,0,some 0⟩)) [(K,ndP a)] []) :
  CallAll Tryz.prog 24 vs h fun v ms=>∃ q:Nat×Nat,v=realP q∧ms=[(b,@Chunk.mk (manyX ndX n (upd g m q) (upd s m a)) o c ps)]:=
 qol b k n m n g s a rfl hm (fun j h1 _=>h1) hb hk (hN k h hk)
open Go Go.RowKit Sx
theorem qou {H:Type} {enc:TypeId×Value→H} {W:World} {fuel:Nat} {v:Value} {x:DataW H×List MemPlace} (hf:DataW.trod enc Tryz.prog W 0 (fun _=>true) true fuel 39 [v]=some x):∃ u bs,v=uR u∧Src W [] u bs:=by
 rcases Deep.open_slice Tryz.underlying39 hf with ⟨hcs,hx⟩|⟨a,len,cap,m,n,D,Pl,hcs,hb,hl,hm,hmm,hx,hi⟩
 ·obtain rfl:v=.slice none 0 0:=by simpa using hcs
  exact⟨none,[],rfl,.nil⟩
 ·obtain rfl:v=.slice (some a) len cap:=by simpa using hcs
  have hmc:m=cap:=by simpa using hmm
  subst hmc
  have hC:Tryz.prog.cellsOf 5=1:=by kernel_rfl
  rw[hC] at hi
  have key:∀ i,i<len→∃ z,W.cell? (a.add i)=some (.int .u8 z):=fun i hil=>by
   obtain⟨cs',hc,ht'⟩:=hi i (by omega)
   obtain⟨_,hcl,hat⟩:=World.cells?_some hc
   obtain⟨z,hz,_,_⟩:=DataW.trod_int Tryz.underlying5 ht'
   have:=hat 0 (by omega)
   rw[hz,Nat.mul_one] at this
   have e:(a.add i).add 0=a.add i:=by simp[Addr.add]
   rw[e] at this
   exact⟨z,by simpa using this⟩
  obtain⟨b,o,sp⟩:=a
  have hsp:sp=none∨len=0:=by
   cases sp with
   | none=>exact .inl rfl
   | some t=>
    rcases Nat.eq_zero_or_pos len with h0|h0
    ·exact .inr h0
    ·obtain⟨z,hz⟩:=key 0 h0
     simp[Addr.add,World.cell?] at hz
     split at hz<;>simp at hz
  refine⟨some ⟨b,o,len,m,sp⟩,(List.range len).map (fun j=>intOf ((W.cell? ⟨b,o+j,none⟩).getD undef)),rfl,.old (by simp) hsp fun j hj=>?_⟩
  have hj:j<len:=by simpa using hj
  rcases hsp with rfl|h0
  ·obtain⟨z,hz⟩:=key j hj
   rw[qb4] at hz
   have hz:W.cell? ⟨b,o+j,none⟩=some (.int .u8 z):=hz
   show W.cell? ⟨b,o+j,none⟩=_
   rw[hz]
   simp[List.getD_eq_getElem?_getD,hj,hz,intOf]
  ·omega
section
variable {o:Oper} {st:St}
end
structure Sp where
 kd:Int
 nd:Int
 n:Int
 px:Int
 py:Int
 qx:Int
 qy:Int
 ex:Int
 ey:Int
 ea:Int
 eb:Int
 ed:Int
 x:Int
 b:Int
 u:Option Sl
abbrev Sp.cs (c:Sp):List Value:=[.int .i64 c.kd,.int .i64 c.nd,.int .i64 c.n,.int .i64 c.px,.int .i64 c.py,.int .i64 c.qx,.int .i64 c.qy,.int .i64 c.ex,.int .i64 c.ey,.int .i64 c.ea,.int .i64 c.eb,.int .i64 c.ed,.int .i64 c.x,.int .u8 c.b,uV c.u]
abbrev Sp.rs (c:Sp):List Value:=[.int .i64 c.kd,.int .i64 c.nd,.int .i64 c.n,.int .i64 c.px,.int .i64 c.py,.int .i64 c.qx,.int .i64 c.qy,.int .i64 c.ex,.int .i64 c.ey,.int .i64 c.ea,.int .i64 c.eb,.int .i64 c.ed,.int .i64 c.x,.int .u8 c.b,uR c.u]
abbrev Sp.v (c:Sp):Value:=.agg ⟨c.cs⟩
theorem Sp.den (c:Sp) (ρ:Nat→Nat×Nat):den ρ (.agg ⟨c.cs⟩)=.agg ⟨c.rs⟩:=by
 show Value.agg ((⟨c.cs⟩:Array Value).map (den1 ρ))=_
 have e:=qtk c.u ρ
 simp only[List.map_toArray,List.map_cons,List.map_nil]
 rw[e]
 rfl
theorem Sp.re (c:Sp) {ix:List (Nat×Nat)}:Re2 ix c.v c.v:=.agg ⟨.plain rfl,.plain rfl,.plain rfl,.plain rfl,.plain rfl,.plain rfl,.plain rfl,.plain rfl,.plain rfl,.plain rfl,.plain rfl,.plain rfl,.plain rfl,.plain rfl,qtl c.u,trivial⟩
theorem qea {o:Oper} {st:St} {t:TypeId} {x:Operand} {b f i sz:Nat} {W:World} {F:List By} {cs ds:List Value} (ho:o.op=.load t x) (hx:EvTo x st (.pointer (some ⟨b,f,none⟩))) (hi:st.h[i]?=some (some (memC W F)))
  (ht:lookT tys t fun ti d=>qcq d=true∧ti.size=sz) (hd:∀ ρ,den ρ (.agg ⟨cs⟩)=.agg ⟨ds⟩) (hl:ds.length=sz) (hk:∀ j v,ds[j]?=some v→W.cell? ⟨b,f+j,none⟩=some v):OKs Tryz.prog o st (.agg ⟨cs⟩) [] [i]:=fun st₂ hs hh _=>
 qav fun X ρ a w R=>by
  have hi2:st₂.h[i]?=some (some (memC W F)):=(hh i (by simp)).trans hi
  have hx':=qgz (hs x (by simp[ho,Op.operands]) _ hx) rfl R
  obtain⟨ti,d,h1,h2,hd',rfl⟩:=qal tysOK ht
  obtain⟨S,E⟩:=R.heap.ext
  have hcells:∀ j v,ds[j]?=some v→w.cell? ((⟨b,f,none⟩:Addr).add j)=some v:=fun j v hv=>by
   rw[qb4];exact qto (hk j v hv) _ _ _ (E.inv i _ hi2)
  refine⟨.agg ⟨ds⟩,?_,fun r _=>hd r⟩
  simp only[execOp,ho,hx',Instr.loadAt,Instr.sureAddr,loadVar,Sem.run_bind,Sem.run_pure,Result.andThen_ok,qb9 h2,hd',if_true,Sx.run_sizeOf h1]
  rw[←hl,run_loadCells_list _ _ _ hcells]
  rfl
theorem qvz {H:Type} {enc:TypeId×Value→H} {W:World} {r:Reach} {base:Nat} {v:Value} {d:DataW H} {p:List MemPlace} (hv:Value.okWide Tryz.prog W r base 22 v) (h:DataW.Trod enc Tryz.prog W 0 (fun _=>true) true 22 v d p) :
  v=.slice none 0 0∨∃ (b o n cap:Nat) (C:Nat→Sp) (B:Nat→List Int),v=.slice (some ⟨b,o,none⟩) n cap∧n≤9223372036854775807∧b<W.heap.size∧∀ i,i<n→Src W [] (C i).u (B i)∧∀ j v,(C i).rs[j]?=some v→W.cell? ⟨b,o+i*15+j,none⟩=some v:=by
 have hsh:=qnw Tryz.underlying22 hv
 obtain⟨A,n,cap,f,rfl,hl,hm,hd,hseg,hrow⟩:=qtg (C:=15) Tryz.underlying22 (by kernel_rfl) h hsh
 cases A with
 | none=>
  obtain⟨rfl,rfl⟩:=qq9 Tryz.underlying22 hv
  exact .inl rfl
 | some a=>
  obtain⟨h1,h2,_⟩:=qie Tryz.underlying22 hv
  obtain⟨b,o,sp⟩:=a
  have h1:sp=none:=h1
  subst h1
  have key:∀ i,i<n→∃ c:Sp,∃ bs,Src W [] c.u bs∧∀ j v,c.rs[j]?=some v→f (i*15+j)=v:=fun i hi=>by
   obtain⟨x,fuel,cs,ht,hcl,hc⟩:=hrow i hi
   have k0:=(qbr (d:=6) (t:=41) (l:=3) (j:=0) (by kernel_rfl) (@Tryz.underlying3) (hc 0 (by omega)) ht).1
   have k1:=(qbr (d:=6) (t:=41) (l:=3) (j:=1) (by kernel_rfl) (@Tryz.underlying3) (hc 1 (by omega)) ht).1
   have k2:=(qbr (d:=6) (t:=41) (l:=3) (j:=2) (by kernel_rfl) (@Tryz.underlying3) (hc 2 (by omega)) ht).1
   have k3:=(qbr (d:=6) (t:=41) (l:=2) (j:=3) (by kernel_rfl) (@Tryz.underlying2) (hc 3 (by omega)) ht).1
   have k4:=(qbr (d:=6) (t:=41) (l:=2) (j:=4) (by kernel_rfl) (@Tryz.underlying2) (hc 4 (by omega)) ht).1
   have k5:=(qbr (d:=6) (t:=41) (l:=2) (j:=5) (by kernel_rfl) (@Tryz.underlying2) (hc 5 (by omega)) ht).1
   have k6:=(qbr (d:=6) (t:=41) (l:=2) (j:=6) (by kernel_rfl) (@Tryz.underlying2) (hc 6 (by omega)) ht).1
   have k7:=(qbr (d:=6) (t:=41) (l:=2) (j:=7) (by kernel_rfl) (@Tryz.underlying2) (hc 7 (by omega)) ht).1
   have k8:=(qbr (d:=6) (t:=41) (l:=2) (j:=8) (by kernel_rfl) (@Tryz.underlying2) (hc 8 (by omega)) ht).1
   have k9:=(qbr (d:=6) (t:=41) (l:=2) (j:=9) (by kernel_rfl) (@Tryz.underlying2) (hc 9 (by omega)) ht).1
   have k10:=(qbr (d:=6) (t:=41) (l:=2) (j:=10) (by kernel_rfl) (@Tryz.underlying2) (hc 10 (by omega)) ht).1
   have k11:=(qbr (d:=6) (t:=41) (l:=2) (j:=11) (by kernel_rfl) (@Tryz.underlying2) (hc 11 (by omega)) ht).1
   have k12:=(qbr (d:=6) (t:=41) (l:=3) (j:=12) (by kernel_rfl) (@Tryz.underlying3) (hc 12 (by omega)) ht).1
   have k13:=(qbr (d:=6) (t:=41) (l:=5) (j:=13) (by kernel_rfl) (@Tryz.underlying5) (hc 13 (by omega)) ht).1
   obtain⟨v14,y14,n14,hv14,hy14⟩:=qf8 6 41 14 39 fuel cs x (by kernel_rfl) (by omega) ht
   obtain⟨u,bs,hu,hs⟩:=qou hy14
   have k14:f (i*15+14)=uR u:=by
    have:=hc 14 (by omega)
    rw[hv14] at this
    rw[←hu];simpa using this.symm
   refine⟨⟨intOf (f (i*15+0)),intOf (f (i*15+1)),intOf (f (i*15+2)),intOf (f (i*15+3)),intOf (f (i*15+4)),intOf (f (i*15+5)),intOf (f (i*15+6)),intOf (f (i*15+7)),intOf (f (i*15+8)),intOf (f (i*15+9)),intOf (f (i*15+10)),intOf (f (i*15+11)),intOf (f (i*15+12)),intOf (f (i*15+13)),u⟩,bs,hs,fun j v hj=>?_⟩
   have hj9:j<15:=by have:=(List.getElem?_eq_some_iff.1 hj).1;simpa using this
   match j,hj9 with
   | 0,_=>exact k0.trans (by simpa using hj)
   | 1,_=>exact k1.trans (by simpa using hj)
   | 2,_=>exact k2.trans (by simpa using hj)
   | 3,_=>exact k3.trans (by simpa using hj)
   | 4,_=>exact k4.trans (by simpa using hj)
   | 5,_=>exact k5.trans (by simpa using hj)
   | 6,_=>exact k6.trans (by simpa using hj)
   | 7,_=>exact k7.trans (by simpa using hj)
   | 8,_=>exact k8.trans (by simpa using hj)
   | 9,_=>exact k9.trans (by simpa using hj)
   | 10,_=>exact k10.trans (by simpa using hj)
   | 11,_=>exact k11.trans (by simpa using hj)
   | 12,_=>exact k12.trans (by simpa using hj)
   | 13,_=>exact k13.trans (by simpa using hj)
   | 14,_=>exact k14.trans (by simpa using hj)
  refine .inr ⟨b,o,n,cap,fun i=>if h:i<n then (key i h).choose else ⟨0,0,0,0,0,0,0,0,0,0,0,0,0,0,none⟩,fun i=>if h:i<n then (key i h).choose_spec.choose else [],rfl,by simp only[maxLen] at hm;omega,h2,fun i hi=>?_⟩
  simp only[dif_pos hi]
  obtain⟨e1,e2⟩:=(key i hi).choose_spec.choose_spec
  refine⟨e1,fun j v hj=>?_⟩
  have hj9:j<15:=by have:=(List.getElem?_eq_some_iff.1 hj).1;simpa using this
  obtain⟨x,hx,_,hc⟩:=hseg (by omega)
  obtain rfl:(⟨b,o,none⟩:Addr)=x:=by simpa using hx
  have:=hc (i*15+j) (by omega)
  rw[qb4,←Nat.add_assoc] at this
  rw[this,e2 j v hj]
open Go Go.ChangeShapes Go.WideShapes Go.ChangeAt Go.RowKit Sx
open Go Go.RowKit Sx
theorem q50 (c:Nat→Int) (n cap i j k:Nat) (P:Nat→Int) (M:Nat→Bool) (tm st:Int) (o1 o2 o3:Bool) (x px py qx qy:Int) (h:Hp) (hi:h[i]?=some (some (wcc o1 c n cap j k tm st))) (hj:h[j]?=some (some (ptP o2 n P))) (hk:h[k]?=some (some (mvP o3 n M))) (hx:¬ (0≤x∧x<(n:Int))) :
  qad Tryz.prog 25 [.pointer (some ⟨i,0,some 0⟩),.int .i64 x,.agg #[.int .i64 px,.int .i64 py],.agg #[.int .i64 qx,.int .i64 qy]] h (.int .i64 1) [] [i,j,k]:=by
 refine qar (G:=tys) [⟨i,_,wcc false c n cap 1 2 tm st,⟨false,0,[]⟩⟩,⟨j,_,ptP false n P,⟨false,0,[]⟩⟩,⟨k,_,mvP false n M,⟨false,0,[]⟩⟩] [] [.pointer (some ⟨0,0,some 0⟩),.int .i64 x,.agg #[.int .i64 px,.int .i64 py],.agg #[.int .i64 qx,.int .i64 qy]] tysOK mixed Tryz.func25 (by rfl) (Tryz.call25) ⟨hi,hj,hk,trivial⟩ ⟨⟨fun h=>(by cases h),nlr _,qch rfl rfl⟩,⟨fun h=>(by cases h),nlr _,qa8⟩,⟨fun h=>(by cases h),nlr _,qay⟩,trivial⟩ (by simp[Apart]) trivial ⟨.ptr rfl,.plain rfl,.plain rfl,.plain rfl,trivial⟩ ?_
 repeat' (refine N.go ?_;first|with_reducible (first|refine N.obl (by decide) ?_|refine N.obl rfl ?_)|refine N.call (cHas c n cap _ _ _ P M tm st _ _ _ _ _ (by rfl) (by rfl) (by rfl)) ?_|refine N.forkYes (by simp only[decide_eq_true_eq,decide_eq_false_iff_not,Bool.not_eq_eq_eq_not,Bool.not_true,Bool.not_false];omega) ?_|refine N.obl trivial ?_|exact N.true|refine N.obl (.plain rfl) ?_|fail)
def moves (c:Nat→Int) (P:Nat→Int) (M:Nat→Bool) (p:Nat) (px py qx qy:Int):Prop:=
 stp px py=true∧px*px+py*py≤c 2*c 2∧stp (qx-px) (qy-py)=true∧(qx-px)*(qx-px)+(qy-py)*(qy-py)≤c 3*c 3∧M p=false∧wiB (P (p*2)+px) (P (p*2+1)+py) 4194304
theorem qzi (c:Nat→Int) (n i j k:Nat) (P:Nat→Int) (M:Nat→Bool) (p:Nat) (px py qx qy:Int) (hp:p<n) (hc2:0≤c 2∧c 2≤1000) (hc3:0≤c 3∧c 3≤1000) (hij:i≠j) (hik:i≠k) (hjk:j≠k) (hPb:wiB (P (p*2)) (P (p*2+1)) 4194304) :
  (∃ e:Int,e≠0∧∀ (cap:Nat) (tm st:Int) (o1:Bool) (h:Hp),h[i]?=some (some (wcc o1 c n cap j k tm st))→h[j]?=some (some (ptP true n P))→h[k]?=some (some (mvP true n M))→qad Tryz.prog 25 [.pointer (some ⟨i,0,some 0⟩),.int .i64 (p:Int),.agg #[.int .i64 px,.int .i64 py],.agg #[.int .i64 qx,.int .i64 qy]] h (.int .i64 e) [] [i,j,k])∨
  (moves c P M p px py qx qy∧∀ (cap:Nat) (tm st:Int) (o1:Bool) (h:Hp),h[i]?=some (some (wcc o1 c n cap j k tm st))→h[j]?=some (some (ptP true n P))→h[k]?=some (some (mvP true n M))→qad Tryz.prog 25 [.pointer (some ⟨i,0,some 0⟩),.int .i64 (p:Int),.agg #[.int .i64 px,.int .i64 py],.agg #[.int .i64 qx,.int .i64 qy]] h (.int .i64 0) [(j,ptP true n (movP P p (P (p*2)+px) (P (p*2+1)+py))),(k,mvP true n (movM M p))] [i]):=by
 by_cases a1:stp px py=true
 ·by_cases a2:stp qx qy=true
  ·by_cases a3:qcw (cx px py) (cy px py) (c 2)=true
   ·by_cases a4:qcw (cx qx qy-cx px py) (cy qx qy-cy px py) (c 3)=true
    ·by_cases a5:M p=true
     ·exact .inl ⟨10,by decide,fun cap tm st o1 h hi hj hk=>q5i c n cap i j k P M tm st o1 true true p px py qx qy h hi hj hk hp hc2 hc3 a1 a2 a3 a4 a5⟩
     ·have a5:M p=false:=by simpa using a5
      by_cases a6:wiB (P (p*2)+px) (P (p*2+1)+py) 4194304
      ·refine .inr ⟨?_,fun cap tm st o1 h hi hj hk=>q5k c n cap i j k P M tm st o1 p px py qx qy hij hik hjk h hi hj hk hp hc2 hc3 a1 a2 a3 a4 a5 a6 hPb⟩
       have b3:=a3
       have b4:=a4
       rw[(qbs a1).1,(qbs a1).2] at b3
       rw[(qbs a1).1,(qbs a1).2,(qbs a2).1,(qbs a2).2] at b4
       unfold qcw at b3 b4
       exact⟨a1,(of_decide_eq_true b3).2,(of_decide_eq_true b4).1,(of_decide_eq_true b4).2,a5,a6⟩
      ·exact .inl ⟨2,by decide,fun cap tm st o1 h hi hj hk=>q5j c n cap i j k P M tm st o1 true true p px py qx qy h hi hj hk hp hc2 hc3 a1 a2 a3 a4 a5 a6 hPb⟩
    ·exact .inl ⟨1,by decide,fun cap tm st o1 h hi hj hk=>q5h c n cap i j k P M tm st o1 true true p px py qx qy h hi hj hk hp hc2 hc3 a1 a2 a3 (by simpa using a4)⟩
   ·exact .inl ⟨1,by decide,fun cap tm st o1 h hi hj hk=>q5g c n cap i j k P M tm st o1 true true p px py qx qy h hi hj hk hp hc2 hc3 a1 a2 (by simpa using a3)⟩
  ·exact .inl ⟨1,by decide,fun cap tm st o1 h hi hj hk=>q5f c n cap i j k P M tm st o1 true true p px py qx qy h hi hj hk hp hc2 hc3 a1 (by simpa using a2)⟩
 ·exact .inl ⟨1,by decide,fun cap tm st o1 h hi hj hk=>q5e c n cap i j k P M tm st o1 true true p px py qx qy h hi hj hk hp hc2 hc3 (by simpa using a1)⟩
theorem qv0 (P:Nat→Int) (p:Nat) (x y:Int):movP P p x y (p*2)=x∧movP P p x y (p*2+1)=y:=by
 unfold movP
 exact⟨if_pos rfl,by rw[if_neg (by omega),if_pos rfl]⟩
theorem qv1 {P:Nat→Int} {n p:Nat} {x y:Int} (hP:∀ q,q<n→wiB (P (q*2)) (P (q*2+1)) 4194304) (h:wiB x y 4194304):∀ q,q<n→wiB (movP P p x y (q*2)) (movP P p x y (q*2+1)) 4194304:=fun q hq=>by
 by_cases e:q=p
 ·subst e;rw[(qv0 P q x y).1,(qv0 P q x y).2];exact h
 ·have h1:=hP q hq
  unfold movP
  rw[if_neg (by omega),if_neg (by omega),if_neg (by omega),if_neg (by omega)]
  exact h1
theorem q3h (q:Nat) (hq:q<64):wiB (pos0 (q*2)) (pos0 (q*2+1)) 4194304:=by
 unfold pos0 wiB
 rw[if_pos (by omega),if_neg (by omega)]
 omega
theorem kY {a:Int} {k:Int} (h:a=k):(a==k)=true:=by subst h;exact beq_self_eq_true a
theorem kN {a:Int} {k:Int} (h:a≠k):(a==k)=false:=beq_eq_false_iff_ne.2 h
theorem qrw (F:FS) (hn:0<F.n) (c:Sp) (hk:c.kd=1) (m:Nat) (hm:m<F.n) (hnd:c.nd=(m:Int)) (e:Int) (he:e≠0) (hW:∀ (cap:Nat) (tm st:Int) (o1:Bool) (h:Hp),h[1]?=some (some (wcc o1 F.C F.n cap 2 3 tm st))→h[2]?=some (some (ptP true F.n F.P))→h[3]?=some (some (mvP true F.n F.M))→qad Tryz.prog 25 [.pointer (some ⟨1,0,some 0⟩),.int .i64 (m:Int),.agg #[.int .i64 c.px,.int .i64 c.py],.agg #[.int .i64 c.qx,.int .i64 c.qy]] h (.int .i64 e) [] [1,2,3]) (i:Nat) (h:Hp) (hi:h[i]?=some (some (flP F))) :
  CallAll Tryz.prog 10 [.pointer (some ⟨i,0,some 0⟩),c.v] h fun v ms=>v=.int .i64 e∧ms=[(i,flP F)]:=by
 have key:=qaj (G:=tys) (h:=h) (vs:=[.pointer (some ⟨i,0,some 0⟩),c.v]) (flOK F) (flH F) (α:=Unit) (fun κ=>True) (fun κ=>.int .i64 e) [⟨i,flP F,flP F,flP F⟩] (fun κ=>[flP F]) (fun κ=>[]) [.pointer (some ⟨0,0,some 0⟩),c.v] tysOK mixed Tryz.func10 (by rfl) (Tryz.call10) ⟨hi,trivial⟩ ⟨⟨fun h=>⟨rfl,nlr _⟩,nlr _,nzj⟩,trivial⟩ (fun κ _=>⟨⟨fun h=>⟨rfl,nlr _⟩,nlr _,nzj⟩,trivial⟩) (by simp[Apart]) ⟨.inr ⟨rfl,rfl⟩,trivial⟩ (fun κ _=>trivial) ⟨.ptr rfl,c.re,trivial⟩ qat ?_
 ·refine qae key fun v ms hR=>?_
  obtain⟨κ,_,rfl,rfl⟩:=hR
  exact⟨rfl,rfl⟩
 intro β hβ
 repeat' (refine N.go ?_;first|with_reducible (first|refine N.obl (by decide) ?_|refine N.obl rfl ?_|refine N.alt ?_|refine N.forkF ?_)|refine N.forkNo (kN (by omega)) ?_|refine N.forkYes (kY (by omega)) ?_|(rw[hnd];refine N.call (hW β.1 F.tm F.st true _ (by rfl) (by rfl) (by rfl)) ?_)|fail)
 refine N.go ?_
 refine qcl F β (by show 0<F.n;omega) hβ rfl ⟨_,rfl,qbk F,qah⟩ (lt7F rfl rfl rfl rfl rfl rfl rfl) (fun ρ ρ' _=>rfl) ?_
 refine N.some () ⟨trivial,?_⟩
 refine N.obl (.plain rfl) ?_
 refine N.obl ⟨⟨_,rfl,fun h=>h,nlr _,nzj⟩,trivial⟩ ?_
 refine N.obl trivial ?_
 refine N.obl ⟨⟨.inr ⟨_,rfl,rfl⟩,trivial⟩,trivial⟩ ?_
 exact N.true
theorem qrx (F:FS) (hn:0<F.n) (c:Sp) (hk:c.kd=1) (m:Nat) (hm:m<F.n) (hnd:c.nd=(m:Int)) (eo:F.on m=false) (hW:∀ (cap:Nat) (tm st:Int) (o1:Bool) (h:Hp),h[1]?=some (some (wcc o1 F.C F.n cap 2 3 tm st))→h[2]?=some (some (ptP true F.n F.P))→h[3]?=some (some (mvP true F.n F.M))→qad Tryz.prog 25 [.pointer (some ⟨1,0,some 0⟩),.int .i64 (m:Int),.agg #[.int .i64 c.px,.int .i64 c.py],.agg #[.int .i64 c.qx,.int .i64 c.qy]] h (.int .i64 0) [(2,ptP true F.n (movP F.P m (F.P (m*2)+c.px) (F.P (m*2+1)+c.py))),(3,mvP true F.n (movM F.M m))] [1]) (i:Nat) (h:Hp) (hi:h[i]?=some (some (flP F))) :
  CallAll Tryz.prog 10 [.pointer (some ⟨i,0,some 0⟩),c.v] h fun v ms=>v=.int .i64 0∧ms=[(i,flP {F with P:=movP F.P m (F.P (m*2)+c.px) (F.P (m*2+1)+c.py),M:=movM F.M m})]:=by
 have key:=qaj (G:=tys) (h:=h) (vs:=[.pointer (some ⟨i,0,some 0⟩),c.v]) (flOK F) (flH F) (α:=Unit) (fun κ=>True) (fun κ=>.int .i64 0) [⟨i,flP F,flP F,flP F⟩] (fun κ=>[flP {F with P:=movP F.P m (F.P (m*2)+c.px) (F.P (m*2+1)+c.py),M:=movM F.M m}]) (fun κ=>[]) [.pointer (some ⟨0,0,some 0⟩),c.v] tysOK mixed Tryz.func10 (by rfl) (Tryz.call10) ⟨hi,trivial⟩ ⟨⟨fun h=>⟨rfl,nlr _⟩,nlr _,nzj⟩,trivial⟩ (fun κ _=>⟨⟨fun h=>⟨rfl,nlr _⟩,nlr _,nzj⟩,trivial⟩) (by simp[Apart]) ⟨.inr ⟨rfl,rfl⟩,trivial⟩ (fun κ _=>trivial) ⟨.ptr rfl,c.re,trivial⟩ qat ?_
 ·refine qae key fun v ms hR=>?_
  obtain⟨κ,_,rfl,rfl⟩:=hR
  exact⟨rfl,rfl⟩
 intro β hβ
 repeat' (refine N.go ?_;first|with_reducible (first|refine N.obl (by decide) ?_|refine N.obl rfl ?_|refine N.obl ⟨by kernel_rfl,by kernel_rfl⟩ ?_|refine N.alt ?_|refine N.forkT ?_|refine N.forkF ?_)|refine N.forkYes (by decide) ?_|refine N.forkYes (kY (by omega)) ?_|(rw[hnd];refine N.call (hW β.1 F.tm F.st true _ (by rfl) (by rfl) (by rfl)) ?_)|refine N.idx m 1 hnd hm ?_|refine N.load _ (rd_on hm) ?_|refine N.forkNo eo ?_|fail)
 refine N.go ?_
 refine qcl {F with P:=movP F.P m (F.P (m*2)+c.px) (F.P (m*2+1)+c.py),M:=movM F.M m} β (by show 0<F.n;omega) hβ rfl ⟨_,rfl,qbk F,qah⟩ (lt7F rfl rfl rfl rfl rfl rfl rfl) (fun ρ ρ' _=>rfl) ?_
 refine N.some () ⟨trivial,?_⟩
 refine N.obl (.plain rfl) ?_
 refine N.obl ⟨⟨_,rfl,fun h=>h,nlr _,nzj⟩,trivial⟩ ?_
 refine N.obl trivial ?_
 refine N.obl ⟨⟨.inr ⟨_,rfl,rfl⟩,trivial⟩,trivial⟩ ?_
 exact N.true
theorem qry (F:FS) (hn:0<F.n) (c:Sp) (hk:c.kd=1) (m:Nat) (hm:m<F.n) (hnd:c.nd=(m:Int)) (eo:F.on m=true) (hW:∀ (cap:Nat) (tm st:Int) (o1:Bool) (h:Hp),h[1]?=some (some (wcc o1 F.C F.n cap 2 3 tm st))→h[2]?=some (some (ptP true F.n F.P))→h[3]?=some (some (mvP true F.n F.M))→qad Tryz.prog 25 [.pointer (some ⟨1,0,some 0⟩),.int .i64 (m:Int),.agg #[.int .i64 c.px,.int .i64 c.py],.agg #[.int .i64 c.qx,.int .i64 c.qy]] h (.int .i64 0) [(2,ptP true F.n (movP F.P m (F.P (m*2)+c.px) (F.P (m*2+1)+c.py))),(3,mvP true F.n (movM F.M m))] [1]) (s':NSt) (hM:∀ (i:Nat) (h:Hp),h[i]?=some (some (ndP (F.s m)))→qad Tryz.prog 26 [.pointer (some ⟨i,0,some 0⟩),.agg #[.int .i64 c.qx,.int .i64 c.qy]] h (.tuple #[]) [(i,ndP s')] []) (i:Nat) (h:Hp) (hi:h[i]?=some (some (flP F))) :
  CallAll Tryz.prog 10 [.pointer (some ⟨i,0,some 0⟩),c.v] h fun v ms=>v=.int .i64 0∧ms=[(i,flP {F with P:=movP F.P m (F.P (m*2)+c.px) (F.P (m*2+1)+c.py),M:=movM F.M m,s:=upd F.s m s'})]:=by
 have key:=qaj (G:=tys) (h:=h) (vs:=[.pointer (some ⟨i,0,some 0⟩),c.v]) (flOK F) (flH F) (α:=Unit) (fun κ=>True) (fun κ=>.int .i64 0) [⟨i,flP F,flP F,flP F⟩] (fun κ=>[flP {F with P:=movP F.P m (F.P (m*2)+c.px) (F.P (m*2+1)+c.py),M:=movM F.M m,s:=upd F.s m s'}]) (fun κ=>[]) [.pointer (some ⟨0,0,some 0⟩),c.v] tysOK mixed Tryz.func10 (by rfl) (Tryz.call10) ⟨hi,trivial⟩ ⟨⟨fun h=>⟨rfl,nlr _⟩,nlr _,nzj⟩,trivial⟩ (fun κ _=>⟨⟨fun h=>⟨rfl,nlr _⟩,nlr _,nzj⟩,trivial⟩) (by simp[Apart]) ⟨.inr ⟨rfl,rfl⟩,trivial⟩ (fun κ _=>trivial) ⟨.ptr rfl,c.re,trivial⟩ qat ?_
 ·refine qae key fun v ms hR=>?_
  obtain⟨κ,_,rfl,rfl⟩:=hR
  exact⟨rfl,rfl⟩
 intro β hβ
 repeat' (refine N.go ?_;first|with_reducible (first|refine N.obl rfl ?_|refine N.forkF ?_)|refine N.forkYes (kY (by omega)) ?_|fail)
 refine N.go ?_
 refine N.alt ?_
 repeat' (refine N.go ?_;first|with_reducible (first|refine N.obl (by decide) ?_|refine N.obl ⟨by kernel_rfl,by kernel_rfl⟩ ?_|refine N.forkT ?_)|refine N.forkYes (by decide) ?_|(rw[hnd];refine N.call (hW β.1 F.tm F.st true _ (by rfl) (by rfl) (by rfl)) ?_)|refine N.idx m 1 hnd hm ?_|refine N.load _ (rd_on hm) ?_|refine N.forkYes eo ?_|fail)
 refine N.go ?_
 refine N.altP ?_
 refine N.go ?_
 refine N.plan [0,1,2,3,4,5,6,7,8,9] [(10,[])] (by kernel_rfl) ?_
 repeat' (refine N.go ?_;first|refine N.idx m 1 hnd hm ?_|refine N.load _ (rd_pr hm hβ.2 rfl) ?_|fail)
 refine N.go ?_
 refine qa4 [4,8] _ (by show midB _ _ _ _=Bool.true;kernel_rfl) (fun h₂ hh=>qvy F.n m F.g F.s hm c.qx c.qy s' hM 4 8 h₂ ((hh 4 (by simp)).trans rfl) ((hh 8 (by simp)).trans rfl)) fun v ms hR=>?_
 obtain⟨rfl,rfl⟩:=hR
 refine⟨by simp,?_⟩
 repeat' (refine N.go ?_;first|with_reducible refine N.obl (by decide) ?_|fail)
 refine N.go ?_
 refine qcl {F with P:=movP F.P m (F.P (m*2)+c.px) (F.P (m*2+1)+c.py),M:=movM F.M m,s:=upd F.s m s'} β (by show 0<F.n;omega) hβ rfl ⟨_,rfl,qbk F,qah⟩ (lt7F rfl rfl rfl rfl rfl rfl rfl) (fun ρ ρ' _=>rfl) ?_
 refine N.some () ⟨trivial,?_⟩
 refine N.obl (.plain rfl) ?_
 refine N.obl ⟨⟨_,rfl,fun h=>h,nlr _,nzj⟩,trivial⟩ ?_
 refine N.obl trivial ?_
 refine N.obl ⟨⟨.inr ⟨_,rfl,rfl⟩,trivial⟩,trivial⟩ ?_
 exact N.true
theorem qrz (F:FS) (hn:0<F.n) (c:Sp) (hk:c.kd=1) (hx:¬ (0≤c.nd∧c.nd<(F.n:Int))) (i:Nat) (h:Hp) (hi:h[i]?=some (some (flP F))) :
  CallAll Tryz.prog 10 [.pointer (some ⟨i,0,some 0⟩),c.v] h fun v ms=>v=.int .i64 1∧ms=[(i,flP F)]:=by
 have key:=qaj (G:=tys) (h:=h) (vs:=[.pointer (some ⟨i,0,some 0⟩),c.v]) (flOK F) (flH F) (α:=Unit) (fun κ=>True) (fun κ=>.int .i64 1) [⟨i,flP F,flP F,flP F⟩] (fun κ=>[flP F]) (fun κ=>[]) [.pointer (some ⟨0,0,some 0⟩),c.v] tysOK mixed Tryz.func10 (by rfl) (Tryz.call10) ⟨hi,trivial⟩ ⟨⟨fun h=>⟨rfl,nlr _⟩,nlr _,nzj⟩,trivial⟩ (fun κ _=>⟨⟨fun h=>⟨rfl,nlr _⟩,nlr _,nzj⟩,trivial⟩) (by simp[Apart]) ⟨.inr ⟨rfl,rfl⟩,trivial⟩ (fun κ _=>trivial) ⟨.ptr rfl,c.re,trivial⟩ qat ?_
 ·refine qae key fun v ms hR=>?_
  obtain⟨κ,_,rfl,rfl⟩:=hR
  exact⟨rfl,rfl⟩
 intro β hβ
 repeat' (refine N.go ?_;first|with_reducible (first|refine N.obl (by decide) ?_|refine N.obl rfl ?_|refine N.alt ?_|refine N.forkF ?_)|refine N.forkNo (by decide) ?_|refine N.forkYes (kY (by omega)) ?_|refine N.call (q50 F.C F.n β.1 1 2 3 F.P F.M F.tm F.st true true true c.nd c.px c.py c.qx c.qy _ (by rfl) (by rfl) (by rfl) hx) ?_|fail)
 refine N.go ?_
 refine qcl F β (by show 0<F.n;omega) hβ rfl ⟨_,rfl,qbk F,qah⟩ (lt7F rfl rfl rfl rfl rfl rfl rfl) (fun ρ ρ' _=>rfl) ?_
 refine N.some () ⟨trivial,?_⟩
 refine N.obl (.plain rfl) ?_
 refine N.obl ⟨⟨_,rfl,fun h=>h,nlr _,nzj⟩,trivial⟩ ?_
 refine N.obl trivial ?_
 refine N.obl ⟨⟨.inr ⟨_,rfl,rfl⟩,trivial⟩,trivial⟩ ?_
 exact N.true
end Go.Proofs.YtdljelmbjdjpjaaGreat
