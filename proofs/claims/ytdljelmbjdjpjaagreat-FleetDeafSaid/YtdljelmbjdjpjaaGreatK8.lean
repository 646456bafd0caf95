/-
  A fleet's mail: it is dropped, doubled, bent.
-/
import Derived.Test.YtdljelmbjdjpjaaGreatK7
set_option linter.unusedVariables false
set_option linter.unusedSimpArgs false
set_option maxRecDepth 100000
set_option maxHeartbeats 20000000

namespace Go.Proofs.YtdljelmbjdjpjaaGreat
open Go Go.RowKit Sx
theorem Own.setB {F:List By} {u:Option Sl} {bs:List Int} (h:Own F u bs) (b q:Nat) (v:Int):∃ bs',bs'.length=bs.length∧Own (setB F b q v) u bs':=by
 cases h with
 | nil=>exact⟨[],rfl,.nil⟩
 | @own e he=>
  by_cases hb:e.b=b
  ·subst hb
   refine⟨e.bs.set q v,by simp,?_⟩
   have e1:e.s=(⟨e.b,e.c,e.bs.set q v⟩:By).s:=by simp[By.s]
   rw[e1]
   exact .own (qmr he)
  ·exact⟨e.bs,rfl,.own (qjs he hb)⟩
theorem AirA.setB {W:World} {F:List By} {L:List Ml} {A:List Am} (h:AirA W F L A) (b q:Nat) (v:Int):∃ A',AirA W (setB F b q v) L A':=by
 induction h with
 | nil=>exact⟨[],.nil⟩
 | @cons m a L A hm _ ih=>
  obtain⟨A',hA⟩:=ih
  obtain⟨bs',hl,ho⟩:=hm.own.setB b q v
  exact⟨⟨m.to_,bs',m.at_,m.tr,m.be⟩::A',.cons ⟨rfl,rfl,rfl,rfl,ho,by show bs'.length≤1000;rw[hl];exact hm.len⟩ hA⟩
theorem AirA.setM {W:World} {F:List By} {L:List Ml} {A:List Am} (h:AirA W F L A):∀ {x:Nat} {m m':Ml},L[x]?=some m→m'.u=m.u→∃ A',AirA W F (L.set x m') A':=by
 induction h with
 | nil=>intro x m m' hx;simp at hx
 | @cons m0 a L A hm hA ih=>
  intro x m m' hx hu
  cases x with
  | zero=>
   obtain rfl:m0=m:=by simpa using hx
   exact⟨⟨m'.to_,a.bs,m'.at_,m'.tr,m'.be⟩::A,.cons ⟨rfl,rfl,rfl,rfl,by show Own F m'.u a.bs;rw[hu];exact hm.own,hm.len⟩ hA⟩
  | succ x=>
   obtain⟨A',hA'⟩:=ih (by simpa using hx) hu
   exact⟨a::A',.cons hm hA'⟩
def AE (W:World) (B:List By) (L:List Ml):Prop:=(∃ A,AirA W B L A)∧L.length≤512
theorem AE.more {W:World} {B B':List By} {L:List Ml} (h:AE W B L) (hs:∀ e,e∈B→e∈B'):AE W B' L:=by
 obtain⟨⟨A,hA⟩,hl⟩:=h
 exact⟨⟨A,hA.mono hs⟩,hl⟩
theorem AE.erase {W:World} {B:List By} {L:List Ml} (h:AE W B L) (x:Nat):AE W B (L.eraseIdx x):=by
 obtain⟨⟨A,hA⟩,hl⟩:=h
 exact⟨⟨_,hA.erase x⟩,Nat.le_trans (by rw[List.length_eraseIdx];split<;>omega) hl⟩
theorem AE.snoc {W:World} {B:List By} {L:List Ml} (h:AE W B L) (hl:L.length<512) {m:Ml} {bs:List Int} (ho:Own B m.u bs) (hb:bs.length≤1000):AE W B (L++[m]):=by
 obtain⟨⟨A,hA⟩,_⟩:=h
 exact⟨⟨_,hA.snoc (a:=⟨m.to_,bs,m.at_,m.tr,m.be⟩) ⟨rfl,rfl,rfl,rfl,ho,hb⟩⟩,by rw[List.length_append];exact hl⟩
theorem AE.bend {W:World} {B:List By} {L:List Ml} (h:AE W B L) {x:Nat} {m m':Ml} (hx:L[x]?=some m) (hu:m'.u=m.u) (b q:Nat) (v:Int):AE W (Sx.setB B b q v) (L.set x m'):=by
 obtain⟨⟨A,hA⟩,hl⟩:=h
 obtain⟨A1,hA1⟩:=hA.setB b q v
 obtain⟨A2,hA2⟩:=hA1.setM hx hu
 exact⟨⟨A2,hA2⟩,by rw[List.length_set];exact hl⟩
theorem AE.get {W:World} {B:List By} {L:List Ml} (h:AE W B L) {x:Nat} (hx:x<L.length):∃ m bs,L[x]?=some m∧Own B m.u bs∧bs.length≤1000:=by
 obtain⟨⟨A,hA⟩,_⟩:=h
 have e:=hA.len
 obtain⟨m,h1,h2⟩:=hA.get (a:=A[x]) (List.getElem?_eq_getElem (by omega))
 exact⟨m,_,h1,h2.own,h2.len⟩
theorem qzj (W:World) (B:List By) (F:FS) (hn:0<F.n) (hA:AE W B F.L) (c:Sp) (hk:c.kd=4∨c.kd=5) (hx:c.n<0∨(F.L.length:Int)≤c.n) (i j:Nat) (hij:i≠j) (h:Hp) (hi:h[i]?=some (some (flP F))) (hj:h[j]?=some (some (memC W B))) :
  CallAll Tryz.prog 29 [.pointer (some ⟨i,0,some 0⟩),c.v] h fun v ms=>∃ κ:Unit,(True)∧v=.int .i64 7∧ms=[(i,flP F),(j,memC W B)]:=by
 have key:=qaj (G:=tys) (h:=h) (vs:=[.pointer (some ⟨i,0,some 0⟩),c.v]) (flOK F) (flO W B F) (α:=Unit) (fun κ=>True) (fun κ=>.int .i64 7) [⟨i,flP F,flP F,flP F⟩,⟨j,memC W B,memC W B,memC W B⟩] (fun κ=>[flP F,memC W B]) (fun κ=>[]) [.pointer (some ⟨0,0,some 0⟩),c.v] tysOK mixed Tryz.func29 (by rfl) (Tryz.call29) ⟨hi,hj,trivial⟩ ⟨⟨fun h=>⟨rfl,nlr _⟩,nlr _,nzj⟩,⟨fun h=>⟨rfl,nlr _⟩,nlr _,nzj⟩,trivial⟩ (fun κ _=>⟨⟨fun h=>⟨rfl,nlr _⟩,nlr _,nzj⟩,⟨fun h=>⟨rfl,nlr _⟩,nlr _,nzj⟩,trivial⟩) (by simp[Apart,hij]) ⟨.inr ⟨rfl,rfl⟩,.inr ⟨rfl,rfl⟩,trivial⟩ (fun κ _=>trivial) ⟨.ptr rfl,c.re,trivial⟩ qbe ?_
 ·refine qae key fun v ms hR=>?_
  obtain⟨κ,hκ,rfl,rfl⟩:=hR
  exact⟨κ,hκ,rfl,rfl⟩
 intro β hβ
 repeat' (refine N.go ?_;first|with_reducible (first|refine N.obl (by decide) ?_|refine N.obl rfl ?_|refine N.obl ⟨by kernel_rfl,by kernel_rfl⟩ ?_|refine N.alt ?_)|refine N.forkYes (by decide) ?_|refine N.forkNo (kN (by omega)) ?_|refine N.call (q26 F.L c.n hx 7 _ (by rfl)) ?_|fail)
 refine N.go ?_
 refine qbt W B F β (by show 0<F.n;omega) hβ rfl ⟨_,rfl,qbk F,qah⟩ (lt8F rfl rfl rfl rfl rfl rfl rfl rfl) (fun ρ ρ' _=>rfl) ?_
 refine N.some () ⟨trivial,?_⟩
 refine N.obl (.plain rfl) ?_
 refine N.obl ⟨⟨_,rfl,fun h=>h,nlr _,nzj⟩,⟨_,rfl,fun h=>h,nlr _,nzj⟩,trivial⟩ ?_
 refine N.obl trivial ?_
 refine N.obl ⟨⟨.inr ⟨_,rfl,rfl⟩,.inr ⟨_,rfl,rfl⟩,trivial⟩,trivial⟩ ?_
 exact N.true
theorem q3i (W:World) (B:List By) (F:FS) (hn:0<F.n) (hA:AE W B F.L) (c:Sp) (hk:c.kd=4) (x:Nat) (hx:c.n=(x:Int)) (hx2:x<F.L.length) (i j:Nat) (hij:i≠j) (h:Hp) (hi:h[i]?=some (some (flP F))) (hj:h[j]?=some (some (memC W B))) :
  CallAll Tryz.prog 29 [.pointer (some ⟨i,0,some 0⟩),c.v] h fun v ms=>∃ κ:List By,(AE W κ (F.L.eraseIdx x)∧∀ e,e∈B→e∈κ)∧v=.int .i64 0∧ms=[(i,flP {F with L:=F.L.eraseIdx x}),(j,memC W κ)]:=by
 have key:=qaj (G:=tys) (h:=h) (vs:=[.pointer (some ⟨i,0,some 0⟩),c.v]) (flOK F) (flO W B F) (α:=List By) (fun κ=>AE W κ (F.L.eraseIdx x)∧∀ e,e∈B→e∈κ) (fun κ=>.int .i64 0) [⟨i,flP F,flP F,flP F⟩,⟨j,memC W B,memC W B,memC W B⟩] (fun κ=>[flP {F with L:=F.L.eraseIdx x},memC W κ]) (fun κ=>[]) [.pointer (some ⟨0,0,some 0⟩),c.v] tysOK mixed Tryz.func29 (by rfl) (Tryz.call29) ⟨hi,hj,trivial⟩ ⟨⟨fun h=>⟨rfl,nlr _⟩,nlr _,nzj⟩,⟨fun h=>⟨rfl,nlr _⟩,nlr _,nzj⟩,trivial⟩ (fun κ _=>⟨⟨fun h=>⟨rfl,nlr _⟩,nlr _,nzj⟩,⟨fun h=>⟨rfl,nlr _⟩,nlr _,nzj⟩,trivial⟩) (by simp[Apart,hij]) ⟨.inr ⟨rfl,rfl⟩,.inr ⟨rfl,rfl⟩,trivial⟩ (fun κ _=>trivial) ⟨.ptr rfl,c.re,trivial⟩ qbe ?_
 ·refine qae key fun v ms hR=>?_
  obtain⟨κ,hκ,rfl,rfl⟩:=hR
  exact⟨κ,hκ,rfl,rfl⟩
 have hxl:x<F.L.length:=by omega
 obtain⟨m,bs,hm,ho,hbs⟩:=hA.get hxl
 intro β hβ
 repeat' (refine N.go ?_;first|with_reducible refine N.obl rfl ?_|refine N.forkNo (kN (by omega)) ?_|fail)
 refine N.go ?_
 refine N.altP ?_
 refine N.go ?_
 refine N.plan [0,1,2,3,4,5,10] [(6,[7,8,9,11,12])] (by kernel_rfl) ?_
 skip
 refine N.go ?_
 (try rw[hx])
 refine qa4 [7,1] _ (by show midB _ _ _ _=Bool.true;kernel_rfl) (fun h₂ hh=>cGetM W B F.L x m bs 7 1 (by decide) h₂ ((hh 7 (by simp)).trans rfl) ((hh 1 (by simp)).trans rfl) hm ho.src (by omega)) fun v ms hR=>?_
 obtain⟨u1,B1,hM1,rfl,rfl⟩:=hR
 refine⟨by simp,?_⟩
 repeat' (refine N.go ?_;first|with_reducible refine N.obl rfl ?_|refine N.forkNo (by decide) ?_|refine N.forkYes (kY (by omega)) ?_|refine N.obl (by show endB _ _=Bool.true;kernel_rfl) ?_|fail)
 refine N.go ?_
 refine N.altP ?_
 refine N.go ?_
 refine N.plan [0,1,2,3,4,5] [(6,[])] (by kernel_rfl) ?_
 skip
 refine N.go ?_
 (try rw[hx])
 refine qa4 [7,1] _ (by show midB _ _ _ _=Bool.true;kernel_rfl) (fun h₂ hh=>q5v W B1 F.L x m bs 7 1 (by decide) h₂ ((hh 7 (by simp)).trans rfl) ((hh 1 (by simp)).trans rfl) hm (ho.more hM1.sub).src (by omega) (by have:=hA.2;omega)) fun v ms hR=>?_
 obtain⟨u2,B2,hM2,rfl,rfl⟩:=hR
 refine⟨by simp,?_⟩
 repeat' (refine N.go ?_;first|with_reducible refine N.obl (by decide) ?_|fail)
 refine N.go ?_
 refine qbt W B2 {F with L:=F.L.eraseIdx x} β (by show 0<F.n;omega) hβ rfl ⟨_,rfl,qbk F,qah⟩ (lt8F rfl rfl rfl rfl rfl rfl rfl rfl) (fun ρ ρ' _=>rfl) ?_
 refine N.some B2 ⟨⟨((hA.more hM1.sub).more hM2.sub).erase x,fun e he=>hM2.sub e (hM1.sub e he)⟩,?_⟩
 refine N.obl (.plain rfl) ?_
 refine N.obl ⟨⟨_,rfl,fun h=>h,nlr _,nzj⟩,⟨_,rfl,fun h=>h,nlr _,nzj⟩,trivial⟩ ?_
 refine N.obl trivial ?_
 refine N.obl ⟨⟨.inr ⟨_,rfl,rfl⟩,.inr ⟨_,rfl,rfl⟩,trivial⟩,trivial⟩ ?_
 exact N.true
theorem qr0 (W:World) (B:List By) (F:FS) (hn:0<F.n) (hA:AE W B F.L) (c:Sp) (hk:c.kd=5) (x:Nat) (hx:c.n=(x:Int)) (hx2:x<F.L.length) (hl:F.L.length<512) (i j:Nat) (hij:i≠j) (h:Hp) (hi:h[i]?=some (some (flP F))) (hj:h[j]?=some (some (memC W B))) :
  CallAll Tryz.prog 29 [.pointer (some ⟨i,0,some 0⟩),c.v] h fun v ms=>∃ κ:List Ml×List By,(AE W κ.2 κ.1)∧v=.int .i64 0∧ms=[(i,flP {F with L:=κ.1}),(j,memC W κ.2)]:=by
 have key:=qaj (G:=tys) (h:=h) (vs:=[.pointer (some ⟨i,0,some 0⟩),c.v]) (flOK F) (flO W B F) (α:=List Ml×List By) (fun κ=>AE W κ.2 κ.1) (fun κ=>.int .i64 0) [⟨i,flP F,flP F,flP F⟩,⟨j,memC W B,memC W B,memC W B⟩] (fun κ=>[flP {F with L:=κ.1},memC W κ.2]) (fun κ=>[]) [.pointer (some ⟨0,0,some 0⟩),c.v] tysOK mixed Tryz.func29 (by rfl) (Tryz.call29) ⟨hi,hj,trivial⟩ ⟨⟨fun h=>⟨rfl,nlr _⟩,nlr _,nzj⟩,⟨fun h=>⟨rfl,nlr _⟩,nlr _,nzj⟩,trivial⟩ (fun κ _=>⟨⟨fun h=>⟨rfl,nlr _⟩,nlr _,nzj⟩,⟨fun h=>⟨rfl,nlr _⟩,nlr _,nzj⟩,trivial⟩) (by simp[Apart,hij]) ⟨.inr ⟨rfl,rfl⟩,.inr ⟨rfl,rfl⟩,trivial⟩ (fun κ _=>trivial) ⟨.ptr rfl,c.re,trivial⟩ qbe ?_
 ·refine qae key fun v ms hR=>?_
  obtain⟨κ,hκ,rfl,rfl⟩:=hR
  exact⟨κ,hκ,rfl,rfl⟩
 have hxl:x<F.L.length:=by omega
 obtain⟨m,bs,hm,ho,hbs⟩:=hA.get hxl
 intro β hβ
 repeat' (refine N.go ?_;first|with_reducible refine N.obl rfl ?_|refine N.forkNo (kN (by omega)) ?_|fail)
 refine N.go ?_
 refine N.altP ?_
 refine N.go ?_
 refine N.plan [0,1,2,3,4,5,10] [(6,[7,8,9,11,12])] (by kernel_rfl) ?_
 skip
 refine N.go ?_
 (try rw[hx])
 refine qa4 [7,1] _ (by show midB _ _ _ _=Bool.true;kernel_rfl) (fun h₂ hh=>cGetM W B F.L x m bs 7 1 (by decide) h₂ ((hh 7 (by simp)).trans rfl) ((hh 1 (by simp)).trans rfl) hm ho.src (by omega)) fun v ms hR=>?_
 obtain⟨u1,B1,hM1,rfl,rfl⟩:=hR
 refine⟨by simp,?_⟩
 repeat' (refine N.go ?_;first|with_reducible refine N.obl rfl ?_|refine N.forkNo (by decide) ?_|refine N.forkNo (kN (by omega)) ?_|refine N.obl (by show endB _ _=Bool.true;kernel_rfl) ?_|fail)
 refine N.go ?_
 refine N.altP ?_
 refine N.go ?_
 refine N.plan [0,1,2,3,4,5] [(6,[7])] (by kernel_rfl) ?_
 skip
 refine N.go ?_
 (try rw[hx])
 refine qa4 [7,1] _ (by show midB _ _ _ _=Bool.true;kernel_rfl) (fun h₂ hh=>qyw W B1 F.L x m bs 7 1 (by decide) h₂ ((hh 7 (by simp)).trans rfl) ((hh 1 (by simp)).trans rfl) hm (ho.more hM1.sub).src hbs hl) fun v ms hR=>?_
 obtain⟨u2,B2,u3,B3,⟨hM2,hM3⟩,rfl,rfl⟩:=hR
 refine⟨by simp,?_⟩
 repeat' (refine N.go ?_;first|with_reducible refine N.obl (by decide) ?_|refine N.forkNo (by decide) ?_|fail)
 refine N.go ?_
 refine qbt W B3 {F with L:=F.L++[(⟨m.to_,u3,m.at_,m.tr,m.be⟩:Ml)]} β (by show 0<F.n;omega) hβ rfl ⟨_,rfl,qbk F,qah⟩ (lt8F rfl rfl rfl rfl rfl rfl rfl rfl) (fun ρ ρ' _=>rfl) ?_
 refine N.some (F.L++[(⟨m.to_,u3,m.at_,m.tr,m.be⟩:Ml)],B3) ⟨(((hA.more hM1.sub).more hM2.sub).more hM3.sub).snoc hl (qqt hM3) hbs,?_⟩
 refine N.obl (.plain rfl) ?_
 refine N.obl ⟨⟨_,rfl,fun h=>h,nlr _,nzj⟩,⟨_,rfl,fun h=>h,nlr _,nzj⟩,trivial⟩ ?_
 refine N.obl trivial ?_
 refine N.obl ⟨⟨.inr ⟨_,rfl,rfl⟩,.inr ⟨_,rfl,rfl⟩,trivial⟩,trivial⟩ ?_
 exact N.true
theorem qr1 (W:World) (B:List By) (F:FS) (hn:0<F.n) (hA:AE W B F.L) (c:Sp) (hk:c.kd=5) (x:Nat) (hx:c.n=(x:Int)) (hx2:x<F.L.length) (hl:512≤F.L.length) (i j:Nat) (hij:i≠j) (h:Hp) (hi:h[i]?=some (some (flP F))) (hj:h[j]?=some (some (memC W B))) :
  CallAll Tryz.prog 29 [.pointer (some ⟨i,0,some 0⟩),c.v] h fun v ms=>∃ κ:List By,(AE W κ F.L)∧v=.int .i64 8∧ms=[(i,flP F),(j,memC W κ)]:=by
 have key:=qaj (G:=tys) (h:=h) (vs:=[.pointer (some ⟨i,0,some 0⟩),c.v]) (flOK F) (flO W B F) (α:=List By) (fun κ=>AE W κ F.L) (fun κ=>.int .i64 8) [⟨i,flP F,flP F,flP F⟩,⟨j,memC W B,memC W B,memC W B⟩] (fun κ=>[flP F,memC W κ]) (fun κ=>[]) [.pointer (some ⟨0,0,some 0⟩),c.v] tysOK mixed Tryz.func29 (by rfl) (Tryz.call29) ⟨hi,hj,trivial⟩ ⟨⟨fun h=>⟨rfl,nlr _⟩,nlr _,nzj⟩,⟨fun h=>⟨rfl,nlr _⟩,nlr _,nzj⟩,trivial⟩ (fun κ _=>⟨⟨fun h=>⟨rfl,nlr _⟩,nlr _,nzj⟩,⟨fun h=>⟨rfl,nlr _⟩,nlr _,nzj⟩,trivial⟩) (by simp[Apart,hij]) ⟨.inr ⟨rfl,rfl⟩,.inr ⟨rfl,rfl⟩,trivial⟩ (fun κ _=>trivial) ⟨.ptr rfl,c.re,trivial⟩ qbe ?_
 ·refine qae key fun v ms hR=>?_
  obtain⟨κ,hκ,rfl,rfl⟩:=hR
  exact⟨κ,hκ,rfl,rfl⟩
 have hxl:x<F.L.length:=by omega
 obtain⟨m,bs,hm,ho,hbs⟩:=hA.get hxl
 intro β hβ
 repeat' (refine N.go ?_;first|with_reducible refine N.obl rfl ?_|refine N.forkNo (kN (by omega)) ?_|fail)
 refine N.go ?_
 refine N.altP ?_
 refine N.go ?_
 refine N.plan [0,1,2,3,4,5,10] [(6,[7,8,9,11,12])] (by kernel_rfl) ?_
 skip
 refine N.go ?_
 (try rw[hx])
 refine qa4 [7,1] _ (by show midB _ _ _ _=Bool.true;kernel_rfl) (fun h₂ hh=>cGetM W B F.L x m bs 7 1 (by decide) h₂ ((hh 7 (by simp)).trans rfl) ((hh 1 (by simp)).trans rfl) hm ho.src (by omega)) fun v ms hR=>?_
 obtain⟨u1,B1,hM1,rfl,rfl⟩:=hR
 refine⟨by simp,?_⟩
 repeat' (refine N.go ?_;first|with_reducible refine N.obl rfl ?_|refine N.forkNo (by decide) ?_|refine N.forkNo (kN (by omega)) ?_|refine N.obl (by show endB _ _=Bool.true;kernel_rfl) ?_|fail)
 refine N.go ?_
 refine N.altP ?_
 refine N.go ?_
 refine N.plan [0,1,2,3,4,5] [(6,[7])] (by kernel_rfl) ?_
 skip
 refine N.go ?_
 (try rw[hx])
 refine qa4 [7,1] _ (by show midB _ _ _ _=Bool.true;kernel_rfl) (fun h₂ hh=>qoq W B1 F.L x m bs 7 1 (by decide) h₂ ((hh 7 (by simp)).trans rfl) ((hh 1 (by simp)).trans rfl) hm (ho.more hM1.sub).src hbs hl) fun v ms hR=>?_
 obtain⟨u2,B2,hM2,rfl,rfl⟩:=hR
 refine⟨by simp,?_⟩
 repeat' (refine N.go ?_;first|with_reducible refine N.obl (by decide) ?_|refine N.forkYes (by decide) ?_|fail)
 refine N.go ?_
 refine qbt W B2 F β (by show 0<F.n;omega) hβ rfl ⟨_,rfl,qbk F,qah⟩ (lt8F rfl rfl rfl rfl rfl rfl rfl rfl) (fun ρ ρ' _=>rfl) ?_
 refine N.some B2 ⟨(hA.more hM1.sub).more hM2.sub,?_⟩
 refine N.obl (.plain rfl) ?_
 refine N.obl ⟨⟨_,rfl,fun h=>h,nlr _,nzj⟩,⟨_,rfl,fun h=>h,nlr _,nzj⟩,trivial⟩ ?_
 refine N.obl trivial ?_
 refine N.obl ⟨⟨.inr ⟨_,rfl,rfl⟩,.inr ⟨_,rfl,rfl⟩,trivial⟩,trivial⟩ ?_
 exact N.true
theorem qzk (W:World) (B:List By) (F:FS) (hn:0<F.n) (hA:AE W B F.L) (c:Sp) (hk:c.kd=6) (hx1:c.n<0) (i j:Nat) (hij:i≠j) (h:Hp) (hi:h[i]?=some (some (flP F))) (hj:h[j]?=some (some (memC W B))) :
  CallAll Tryz.prog 29 [.pointer (some ⟨i,0,some 0⟩),c.v] h fun v ms=>∃ κ:Unit,(True)∧v=.int .i64 7∧ms=[(i,flP F),(j,memC W B)]:=by
 have key:=qaj (G:=tys) (h:=h) (vs:=[.pointer (some ⟨i,0,some 0⟩),c.v]) (flOK F) (flO W B F) (α:=Unit) (fun κ=>True) (fun κ=>.int .i64 7) [⟨i,flP F,flP F,flP F⟩,⟨j,memC W B,memC W B,memC W B⟩] (fun κ=>[flP F,memC W B]) (fun κ=>[]) [.pointer (some ⟨0,0,some 0⟩),c.v] tysOK mixed Tryz.func29 (by rfl) (Tryz.call29) ⟨hi,hj,trivial⟩ ⟨⟨fun h=>⟨rfl,nlr _⟩,nlr _,nzj⟩,⟨fun h=>⟨rfl,nlr _⟩,nlr _,nzj⟩,trivial⟩ (fun κ _=>⟨⟨fun h=>⟨rfl,nlr _⟩,nlr _,nzj⟩,⟨fun h=>⟨rfl,nlr _⟩,nlr _,nzj⟩,trivial⟩) (by simp[Apart,hij]) ⟨.inr ⟨rfl,rfl⟩,.inr ⟨rfl,rfl⟩,trivial⟩ (fun κ _=>trivial) ⟨.ptr rfl,c.re,trivial⟩ qbe ?_
 ·refine qae key fun v ms hR=>?_
  obtain⟨κ,hκ,rfl,rfl⟩:=hR
  exact⟨κ,hκ,rfl,rfl⟩
 intro β hβ
 repeat' (refine N.go ?_;first|with_reducible (first|refine N.obl rfl ?_|refine N.obl ⟨by kernel_rfl,by kernel_rfl⟩ ?_|refine N.alt ?_)|refine N.forkYes (kY (by omega)) ?_|((try rw[hx]);(try rw[hq]);refine N.call (qrq F.L c.n c.x c.b hx1 7 _ (by rfl)) ?_)|fail)
 refine N.go ?_
 refine qbt W B F β (by show 0<F.n;omega) hβ rfl ⟨_,rfl,qbk F,qah⟩ (lt8F rfl rfl rfl rfl rfl rfl rfl rfl) (fun ρ ρ' _=>rfl) ?_
 refine N.some () ⟨trivial,?_⟩
 refine N.obl (.plain rfl) ?_
 refine N.obl ⟨⟨_,rfl,fun h=>h,nlr _,nzj⟩,⟨_,rfl,fun h=>h,nlr _,nzj⟩,trivial⟩ ?_
 refine N.obl trivial ?_
 refine N.obl ⟨⟨.inr ⟨_,rfl,rfl⟩,.inr ⟨_,rfl,rfl⟩,trivial⟩,trivial⟩ ?_
 exact N.true
theorem qzl (W:World) (B:List By) (F:FS) (hn:0<F.n) (hA:AE W B F.L) (c:Sp) (hk:c.kd=6) (hx1:0≤c.n) (hx2:(F.L.length:Int)≤c.n) (i j:Nat) (hij:i≠j) (h:Hp) (hi:h[i]?=some (some (flP F))) (hj:h[j]?=some (some (memC W B))) :
  CallAll Tryz.prog 29 [.pointer (some ⟨i,0,some 0⟩),c.v] h fun v ms=>∃ κ:Unit,(True)∧v=.int .i64 7∧ms=[(i,flP F),(j,memC W B)]:=by
 have key:=qaj (G:=tys) (h:=h) (vs:=[.pointer (some ⟨i,0,some 0⟩),c.v]) (flOK F) (flO W B F) (α:=Unit) (fun κ=>True) (fun κ=>.int .i64 7) [⟨i,flP F,flP F,flP F⟩,⟨j,memC W B,memC W B,memC W B⟩] (fun κ=>[flP F,memC W B]) (fun κ=>[]) [.pointer (some ⟨0,0,some 0⟩),c.v] tysOK mixed Tryz.func29 (by rfl) (Tryz.call29) ⟨hi,hj,trivial⟩ ⟨⟨fun h=>⟨rfl,nlr _⟩,nlr _,nzj⟩,⟨fun h=>⟨rfl,nlr _⟩,nlr _,nzj⟩,trivial⟩ (fun κ _=>⟨⟨fun h=>⟨rfl,nlr _⟩,nlr _,nzj⟩,⟨fun h=>⟨rfl,nlr _⟩,nlr _,nzj⟩,trivial⟩) (by simp[Apart,hij]) ⟨.inr ⟨rfl,rfl⟩,.inr ⟨rfl,rfl⟩,trivial⟩ (fun κ _=>trivial) ⟨.ptr rfl,c.re,trivial⟩ qbe ?_
 ·refine qae key fun v ms hR=>?_
  obtain⟨κ,hκ,rfl,rfl⟩:=hR
  exact⟨κ,hκ,rfl,rfl⟩
 intro β hβ
 repeat' (refine N.go ?_;first|with_reducible (first|refine N.obl rfl ?_|refine N.obl ⟨by kernel_rfl,by kernel_rfl⟩ ?_|refine N.alt ?_)|refine N.forkYes (kY (by omega)) ?_|((try rw[hx]);(try rw[hq]);refine N.call (qrr F.L c.n c.x c.b hx1 hx2 7 _ (by rfl)) ?_)|fail)
 refine N.go ?_
 refine qbt W B F β (by show 0<F.n;omega) hβ rfl ⟨_,rfl,qbk F,qah⟩ (lt8F rfl rfl rfl rfl rfl rfl rfl rfl) (fun ρ ρ' _=>rfl) ?_
 refine N.some () ⟨trivial,?_⟩
 refine N.obl (.plain rfl) ?_
 refine N.obl ⟨⟨_,rfl,fun h=>h,nlr _,nzj⟩,⟨_,rfl,fun h=>h,nlr _,nzj⟩,trivial⟩ ?_
 refine N.obl trivial ?_
 refine N.obl ⟨⟨.inr ⟨_,rfl,rfl⟩,.inr ⟨_,rfl,rfl⟩,trivial⟩,trivial⟩ ?_
 exact N.true
theorem qzm (W:World) (B:List By) (F:FS) (hn:0<F.n) (hA:AE W B F.L) (c:Sp) (hk:c.kd=6) (x:Nat) (hx:c.n=(x:Int)) (to_ at_ tr:Int) (u:Option Sl) (hm:F.L[x]?=some ⟨to_,u,at_,tr,true⟩) (i j:Nat) (hij:i≠j) (h:Hp) (hi:h[i]?=some (some (flP F))) (hj:h[j]?=some (some (memC W B))) :
  CallAll Tryz.prog 29 [.pointer (some ⟨i,0,some 0⟩),c.v] h fun v ms=>∃ κ:Unit,(True)∧v=.int .i64 10∧ms=[(i,flP F),(j,memC W B)]:=by
 have key:=qaj (G:=tys) (h:=h) (vs:=[.pointer (some ⟨i,0,some 0⟩),c.v]) (flOK F) (flO W B F) (α:=Unit) (fun κ=>True) (fun κ=>.int .i64 10) [⟨i,flP F,flP F,flP F⟩,⟨j,memC W B,memC W B,memC W B⟩] (fun κ=>[flP F,memC W B]) (fun κ=>[]) [.pointer (some ⟨0,0,some 0⟩),c.v] tysOK mixed Tryz.func29 (by rfl) (Tryz.call29) ⟨hi,hj,trivial⟩ ⟨⟨fun h=>⟨rfl,nlr _⟩,nlr _,nzj⟩,⟨fun h=>⟨rfl,nlr _⟩,nlr _,nzj⟩,trivial⟩ (fun κ _=>⟨⟨fun h=>⟨rfl,nlr _⟩,nlr _,nzj⟩,⟨fun h=>⟨rfl,nlr _⟩,nlr _,nzj⟩,trivial⟩) (by simp[Apart,hij]) ⟨.inr ⟨rfl,rfl⟩,.inr ⟨rfl,rfl⟩,trivial⟩ (fun κ _=>trivial) ⟨.ptr rfl,c.re,trivial⟩ qbe ?_
 ·refine qae key fun v ms hR=>?_
  obtain⟨κ,hκ,rfl,rfl⟩:=hR
  exact⟨κ,hκ,rfl,rfl⟩
 intro β hβ
 repeat' (refine N.go ?_;first|with_reducible (first|refine N.obl rfl ?_|refine N.obl ⟨by kernel_rfl,by kernel_rfl⟩ ?_|refine N.alt ?_)|refine N.forkYes (kY (by omega)) ?_|((try rw[hx]);(try rw[hq]);refine N.call (qrs F.L x c.x c.b to_ at_ tr u hm 7 _ (by rfl)) ?_)|fail)
 refine N.go ?_
 refine qbt W B F β (by show 0<F.n;omega) hβ rfl ⟨_,rfl,qbk F,qah⟩ (lt8F rfl rfl rfl rfl rfl rfl rfl rfl) (fun ρ ρ' _=>rfl) ?_
 refine N.some () ⟨trivial,?_⟩
 refine N.obl (.plain rfl) ?_
 refine N.obl ⟨⟨_,rfl,fun h=>h,nlr _,nzj⟩,⟨_,rfl,fun h=>h,nlr _,nzj⟩,trivial⟩ ?_
 refine N.obl trivial ?_
 refine N.obl ⟨⟨.inr ⟨_,rfl,rfl⟩,.inr ⟨_,rfl,rfl⟩,trivial⟩,trivial⟩ ?_
 exact N.true
theorem qzn (W:World) (B:List By) (F:FS) (hn:0<F.n) (hA:AE W B F.L) (c:Sp) (hk:c.kd=6) (x:Nat) (hx:c.n=(x:Int)) (to_ at_ tr:Int) (u:Option Sl) (hm:F.L[x]?=some ⟨to_,u,at_,tr,false⟩) (hq0:c.x<0) (i j:Nat) (hij:i≠j) (h:Hp) (hi:h[i]?=some (some (flP F))) (hj:h[j]?=some (some (memC W B))) :
  CallAll Tryz.prog 29 [.pointer (some ⟨i,0,some 0⟩),c.v] h fun v ms=>∃ κ:Unit,(True)∧v=.int .i64 1∧ms=[(i,flP F),(j,memC W B)]:=by
 have key:=qaj (G:=tys) (h:=h) (vs:=[.pointer (some ⟨i,0,some 0⟩),c.v]) (flOK F) (flO W B F) (α:=Unit) (fun κ=>True) (fun κ=>.int .i64 1) [⟨i,flP F,flP F,flP F⟩,⟨j,memC W B,memC W B,memC W B⟩] (fun κ=>[flP F,memC W B]) (fun κ=>[]) [.pointer (some ⟨0,0,some 0⟩),c.v] tysOK mixed Tryz.func29 (by rfl) (Tryz.call29) ⟨hi,hj,trivial⟩ ⟨⟨fun h=>⟨rfl,nlr _⟩,nlr _,nzj⟩,⟨fun h=>⟨rfl,nlr _⟩,nlr _,nzj⟩,trivial⟩ (fun κ _=>⟨⟨fun h=>⟨rfl,nlr _⟩,nlr _,nzj⟩,⟨fun h=>⟨rfl,nlr _⟩,nlr _,nzj⟩,trivial⟩) (by simp[Apart,hij]) ⟨.inr ⟨rfl,rfl⟩,.inr ⟨rfl,rfl⟩,trivial⟩ (fun κ _=>trivial) ⟨.ptr rfl,c.re,trivial⟩ qbe ?_
 ·refine qae key fun v ms hR=>?_
  obtain⟨κ,hκ,rfl,rfl⟩:=hR
  exact⟨κ,hκ,rfl,rfl⟩
 intro β hβ
 repeat' (refine N.go ?_;first|with_reducible (first|refine N.obl rfl ?_|refine N.obl ⟨by kernel_rfl,by kernel_rfl⟩ ?_|refine N.alt ?_)|refine N.forkYes (kY (by omega)) ?_|((try rw[hx]);(try rw[hq]);refine N.call (qvp F.L x c.x c.b to_ at_ tr u hm hq0 7 _ (by rfl)) ?_)|fail)
 refine N.go ?_
 refine qbt W B F β (by show 0<F.n;omega) hβ rfl ⟨_,rfl,qbk F,qah⟩ (lt8F rfl rfl rfl rfl rfl rfl rfl rfl) (fun ρ ρ' _=>rfl) ?_
 refine N.some () ⟨trivial,?_⟩
 refine N.obl (.plain rfl) ?_
 refine N.obl ⟨⟨_,rfl,fun h=>h,nlr _,nzj⟩,⟨_,rfl,fun h=>h,nlr _,nzj⟩,trivial⟩ ?_
 refine N.obl trivial ?_
 refine N.obl ⟨⟨.inr ⟨_,rfl,rfl⟩,.inr ⟨_,rfl,rfl⟩,trivial⟩,trivial⟩ ?_
 exact N.true
theorem qzo (W:World) (B:List By) (F:FS) (hn:0<F.n) (hA:AE W B F.L) (c:Sp) (hk:c.kd=6) (x:Nat) (hx:c.n=(x:Int)) (to_ at_ tr:Int) (u:Option Sl) (hm:F.L[x]?=some ⟨to_,u,at_,tr,false⟩) (hq0:0≤c.x) (hq1:(uN u:Int)≤c.x) (i j:Nat) (hij:i≠j) (h:Hp) (hi:h[i]?=some (some (flP F))) (hj:h[j]?=some (some (memC W B))) :
  CallAll Tryz.prog 29 [.pointer (some ⟨i,0,some 0⟩),c.v] h fun v ms=>∃ κ:Unit,(True)∧v=.int .i64 1∧ms=[(i,flP F),(j,memC W B)]:=by
 have key:=qaj (G:=tys) (h:=h) (vs:=[.pointer (some ⟨i,0,some 0⟩),c.v]) (flOK F) (flO W B F) (α:=Unit) (fun κ=>True) (fun κ=>.int .i64 1) [⟨i,flP F,flP F,flP F⟩,⟨j,memC W B,memC W B,memC W B⟩] (fun κ=>[flP F,memC W B]) (fun κ=>[]) [.pointer (some ⟨0,0,some 0⟩),c.v] tysOK mixed Tryz.func29 (by rfl) (Tryz.call29) ⟨hi,hj,trivial⟩ ⟨⟨fun h=>⟨rfl,nlr _⟩,nlr _,nzj⟩,⟨fun h=>⟨rfl,nlr _⟩,nlr _,nzj⟩,trivial⟩ (fun κ _=>⟨⟨fun h=>⟨rfl,nlr _⟩,nlr _,nzj⟩,⟨fun h=>⟨rfl,nlr _⟩,nlr _,nzj⟩,trivial⟩) (by simp[Apart,hij]) ⟨.inr ⟨rfl,rfl⟩,.inr ⟨rfl,rfl⟩,trivial⟩ (fun κ _=>trivial) ⟨.ptr rfl,c.re,trivial⟩ qbe ?_
 ·refine qae key fun v ms hR=>?_
  obtain⟨κ,hκ,rfl,rfl⟩:=hR
  exact⟨κ,hκ,rfl,rfl⟩
 intro β hβ
 repeat' (refine N.go ?_;first|with_reducible (first|refine N.obl rfl ?_|refine N.obl ⟨by kernel_rfl,by kernel_rfl⟩ ?_|refine N.alt ?_)|refine N.forkYes (kY (by omega)) ?_|((try rw[hx]);(try rw[hq]);refine N.call (qvq F.L x c.x c.b to_ at_ tr u hm hq0 hq1 7 _ (by rfl)) ?_)|fail)
 refine N.go ?_
 refine qbt W B F β (by show 0<F.n;omega) hβ rfl ⟨_,rfl,qbk F,qah⟩ (lt8F rfl rfl rfl rfl rfl rfl rfl rfl) (fun ρ ρ' _=>rfl) ?_
 refine N.some () ⟨trivial,?_⟩
 refine N.obl (.plain rfl) ?_
 refine N.obl ⟨⟨_,rfl,fun h=>h,nlr _,nzj⟩,⟨_,rfl,fun h=>h,nlr _,nzj⟩,trivial⟩ ?_
 refine N.obl trivial ?_
 refine N.obl ⟨⟨.inr ⟨_,rfl,rfl⟩,.inr ⟨_,rfl,rfl⟩,trivial⟩,trivial⟩ ?_
 exact N.true
theorem qzp (W:World) (B:List By) (F:FS) (hn:0<F.n) (hA:AE W B F.L) (c:Sp) (hk:c.kd=6) (x:Nat) (hx:c.n=(x:Int)) (to_ at_ tr:Int) (u:Option Sl) (hm:F.L[x]?=some ⟨to_,u,at_,tr,false⟩) (hq0:0≤c.x) (hq1:c.x<(uN u:Int)) (hb:c.b=0) (i j:Nat) (hij:i≠j) (h:Hp) (hi:h[i]?=some (some (flP F))) (hj:h[j]?=some (some (memC W B))) :
  CallAll Tryz.prog 29 [.pointer (some ⟨i,0,some 0⟩),c.v] h fun v ms=>∃ κ:Unit,(True)∧v=.int .i64 1∧ms=[(i,flP F),(j,memC W B)]:=by
 have key:=qaj (G:=tys) (h:=h) (vs:=[.pointer (some ⟨i,0,some 0⟩),c.v]) (flOK F) (flO W B F) (α:=Unit) (fun κ=>True) (fun κ=>.int .i64 1) [⟨i,flP F,flP F,flP F⟩,⟨j,memC W B,memC W B,memC W B⟩] (fun κ=>[flP F,memC W B]) (fun κ=>[]) [.pointer (some ⟨0,0,some 0⟩),c.v] tysOK mixed Tryz.func29 (by rfl) (Tryz.call29) ⟨hi,hj,trivial⟩ ⟨⟨fun h=>⟨rfl,nlr _⟩,nlr _,nzj⟩,⟨fun h=>⟨rfl,nlr _⟩,nlr _,nzj⟩,trivial⟩ (fun κ _=>⟨⟨fun h=>⟨rfl,nlr _⟩,nlr _,nzj⟩,⟨fun h=>⟨rfl,nlr _⟩,nlr _,nzj⟩,trivial⟩) (by simp[Apart,hij]) ⟨.inr ⟨rfl,rfl⟩,.inr ⟨rfl,rfl⟩,trivial⟩ (fun κ _=>trivial) ⟨.ptr rfl,c.re,trivial⟩ qbe ?_
 ·refine qae key fun v ms hR=>?_
  obtain⟨κ,hκ,rfl,rfl⟩:=hR
  exact⟨κ,hκ,rfl,rfl⟩
 intro β hβ
 repeat' (refine N.go ?_;first|with_reducible (first|refine N.obl rfl ?_|refine N.obl ⟨by kernel_rfl,by kernel_rfl⟩ ?_|refine N.alt ?_)|refine N.forkYes (kY (by omega)) ?_|((try rw[hx]);(try rw[hq]);refine N.call (qvr F.L x c.x c.b to_ at_ tr u hm hq0 hq1 hb 7 _ (by rfl)) ?_)|fail)
 refine N.go ?_
 refine qbt W B F β (by show 0<F.n;omega) hβ rfl ⟨_,rfl,qbk F,qah⟩ (lt8F rfl rfl rfl rfl rfl rfl rfl rfl) (fun ρ ρ' _=>rfl) ?_
 refine N.some () ⟨trivial,?_⟩
 refine N.obl (.plain rfl) ?_
 refine N.obl ⟨⟨_,rfl,fun h=>h,nlr _,nzj⟩,⟨_,rfl,fun h=>h,nlr _,nzj⟩,trivial⟩ ?_
 refine N.obl trivial ?_
 refine N.obl ⟨⟨.inr ⟨_,rfl,rfl⟩,.inr ⟨_,rfl,rfl⟩,trivial⟩,trivial⟩ ?_
 exact N.true
theorem qzq (W:World) (B:List By) (F:FS) (hn:0<F.n) (hA:AE W B F.L) (c:Sp) (hk:c.kd=6) (x:Nat) (hx:c.n=(x:Int)) (to_ at_ tr:Int) (e:By) (he:e∈B) (hm:F.L[x]?=some ⟨to_,e.s,at_,tr,false⟩) (q:Nat) (hq:c.x=(q:Int)) (hq1:q<e.bs.length) (hb:c.b≠0) (i j:Nat) (hij:i≠j) (h:Hp) (hi:h[i]?=some (some (flP F))) (hj:h[j]?=some (some (memC W B))) :
  CallAll Tryz.prog 29 [.pointer (some ⟨i,0,some 0⟩),c.v] h fun v ms=>∃ κ:List Ml×List By,(AE W κ.2 κ.1)∧v=.int .i64 0∧ms=[(i,flP {F with L:=κ.1}),(j,memC W κ.2)]:=by
 have key:=qaj (G:=tys) (h:=h) (vs:=[.pointer (some ⟨i,0,some 0⟩),c.v]) (flOK F) (flO W B F) (α:=List Ml×List By) (fun κ=>AE W κ.2 κ.1) (fun κ=>.int .i64 0) [⟨i,flP F,flP F,flP F⟩,⟨j,memC W B,memC W B,memC W B⟩] (fun κ=>[flP {F with L:=κ.1},memC W κ.2]) (fun κ=>[]) [.pointer (some ⟨0,0,some 0⟩),c.v] tysOK mixed Tryz.func29 (by rfl) (Tryz.call29) ⟨hi,hj,trivial⟩ ⟨⟨fun h=>⟨rfl,nlr _⟩,nlr _,nzj⟩,⟨fun h=>⟨rfl,nlr _⟩,nlr _,nzj⟩,trivial⟩ (fun κ _=>⟨⟨fun h=>⟨rfl,nlr _⟩,nlr _,nzj⟩,⟨fun h=>⟨rfl,nlr _⟩,nlr _,nzj⟩,trivial⟩) (by simp[Apart,hij]) ⟨.inr ⟨rfl,rfl⟩,.inr ⟨rfl,rfl⟩,trivial⟩ (fun κ _=>trivial) ⟨.ptr rfl,c.re,trivial⟩ qbe ?_
 ·refine qae key fun v ms hR=>?_
  obtain⟨κ,hκ,rfl,rfl⟩:=hR
  exact⟨κ,hκ,rfl,rfl⟩
 intro β hβ
 repeat' (refine N.go ?_;first|with_reducible (first|refine N.obl rfl ?_|refine N.obl ⟨by kernel_rfl,by kernel_rfl⟩ ?_|refine N.alt ?_)|refine N.forkYes (kY (by omega)) ?_|((try rw[hx]);(try rw[hq]);refine N.call (q5u W B F.L x q c.b to_ at_ tr e he hm hq1 hb 7 1 (by decide) _ (by rfl) (by rfl)) ?_)|fail)
 refine N.go ?_
 refine qbt W (Sx.setB B e.b q (bendV (e.bs.getD q 0) c.b)) {F with L:=F.L.set x ⟨to_,e.s,at_,tr,true⟩} β (by show 0<F.n;omega) hβ rfl ⟨_,rfl,qbk F,qah⟩ (lt8F rfl rfl rfl rfl rfl rfl rfl rfl) (fun ρ ρ' _=>rfl) ?_
 refine N.some (F.L.set x ⟨to_,e.s,at_,tr,true⟩,Sx.setB B e.b q (bendV (e.bs.getD q 0) c.b)) ⟨hA.bend (m':=⟨to_,e.s,at_,tr,true⟩) hm rfl _ _ _,?_⟩
 refine N.obl (.plain rfl) ?_
 refine N.obl ⟨⟨_,rfl,fun h=>h,nlr _,nzj⟩,⟨_,rfl,fun h=>h,nlr _,nzj⟩,trivial⟩ ?_
 refine N.obl trivial ?_
 refine N.obl ⟨⟨.inr ⟨_,rfl,rfl⟩,.inr ⟨_,rfl,rfl⟩,trivial⟩,trivial⟩ ?_
 exact N.true
theorem q3j (W:World) (B:List By) (F:FS) (hn:0<F.n) (hA:AE W B F.L) (c:Sp) (hk:c.kd=4∨c.kd=5∨c.kd=6) (i j:Nat) (hij:i≠j) (h:Hp) (hi:h[i]?=some (some (flP F))) (hj:h[j]?=some (some (memC W B))) :
  CallAll Tryz.prog 29 [.pointer (some ⟨i,0,some 0⟩),c.v] h fun v ms=>∃ (e:Int) (L':List Ml) (B':List By),AE W B' L'∧v=.int .i64 e∧ms=[(i,flP {F with L:=L'}),(j,memC W B')]:=by
 by_cases h6:c.kd=6
 ·by_cases h1:c.n<0
  ·exact qae (qzk W B F hn hA c h6 h1 i j hij h hi hj) fun v ms ⟨_,_,hv,hm⟩=>⟨_,_,_,hA,hv,hm⟩
  by_cases h2:(F.L.length:Int)≤c.n
  ·exact qae (qzl W B F hn hA c h6 (by omega) h2 i j hij h hi hj) fun v ms ⟨_,_,hv,hm⟩=>⟨_,_,_,hA,hv,hm⟩
  obtain⟨x,hx⟩:∃ x:Nat,c.n=x:=⟨c.n.toNat,by omega⟩
  obtain⟨⟨to_,u,at_,tr,be⟩,bs,hm,ho,hbs⟩:=hA.get (x:=x) (by omega)
  cases be with
  | true=>exact qae (qzm W B F hn hA c h6 x hx to_ at_ tr u hm i j hij h hi hj) fun v ms ⟨_,_,hv,hm⟩=>⟨_,_,_,hA,hv,hm⟩
  | false=>
   by_cases h3:c.x<0
   ·exact qae (qzn W B F hn hA c h6 x hx to_ at_ tr u hm h3 i j hij h hi hj) fun v ms ⟨_,_,hv,hm⟩=>⟨_,_,_,hA,hv,hm⟩
   by_cases h4:(uN u:Int)≤c.x
   ·exact qae (qzo W B F hn hA c h6 x hx to_ at_ tr u hm (by omega) h4 i j hij h hi hj) fun v ms ⟨_,_,hv,hm⟩=>⟨_,_,_,hA,hv,hm⟩
   by_cases h5:c.b=0
   ·exact qae (qzp W B F hn hA c h6 x hx to_ at_ tr u hm (by omega) (by omega) h5 i j hij h hi hj) fun v ms ⟨_,_,hv,hm⟩=>⟨_,_,_,hA,hv,hm⟩
   obtain⟨q,hq⟩:∃ q:Nat,c.x=q:=⟨c.x.toNat,by omega⟩
   rcases ho.or with ⟨e1,e2⟩|⟨e,he,e1,e2⟩
   ·have e1:u=none:=e1
    rw[e1] at h4
    have h4:¬ ((0:Nat):Int)≤c.x:=h4
    omega
   ·have e1:u=e.s:=e1
    subst e1
    have h4:¬ ((e.bs.length:Nat):Int)≤c.x:=h4
    exact qae (qzq W B F hn hA c h6 x hx to_ at_ tr e he hm q hq (by omega) h5 i j hij h hi hj) fun v ms ⟨κ,hκ,hv,hm⟩=>⟨_,_,_,hκ,hv,hm⟩
 by_cases h1:c.n<0∨(F.L.length:Int)≤c.n
 ·exact qae (qzj W B F hn hA c (by omega) h1 i j hij h hi hj) fun v ms ⟨_,_,hv,hm⟩=>⟨_,_,_,hA,hv,hm⟩
 obtain⟨x,hx⟩:∃ x:Nat,c.n=x:=⟨c.n.toNat,by omega⟩
 by_cases h4:c.kd=4
 ·exact qae (q3i W B F hn hA c h4 x hx (by omega) i j hij h hi hj) fun v ms ⟨κ,hκ,hv,hm⟩=>⟨_,_,_,hκ.1,hv,hm⟩
 ·have h5:c.kd=5:=by omega
  by_cases hl:F.L.length<512
  ·exact qae (qr0 W B F hn hA c h5 x hx (by omega) hl i j hij h hi hj) fun v ms ⟨κ,hκ,hv,hm⟩=>⟨_,_,_,hκ,hv,hm⟩
  ·exact qae (qr1 W B F hn hA c h5 x hx (by omega) (by omega) i j hij h hi hj) fun v ms ⟨κ,hκ,hv,hm⟩=>⟨_,_,_,hκ,hv,hm⟩
theorem qi7 (i:Nat) (on:Nat→Bool) (mk:Nat→Am) (s:List Am×Int) (h:s.1.length≤512):∀ j,(sendA i on mk s j).1.length≤512
 | 0=>h
 | j+1=>by
  have ih:=qi7 i on mk s h j
  unfold sendA
  split
  ·exact ih
  ·unfold putA
   split
   ·show((sendA i on mk s j).1++[mk j]).length≤512
    rw[List.length_append]
    show(sendA i on mk s j).1.length+1≤512
    omega
   ·exact ih
theorem qv2 (W:World) (B:List By) (F:FS) (hn:0<F.n) (hA:AE W B F.L) (c:Sp) (hk:c.kd=9) (m:Nat) (hm:m<F.n) (hnd:c.nd=(m:Int)) (eo:F.on m=false) (i j:Nat) (hij:i≠j) (h:Hp) (hi:h[i]?=some (some (flP F))) (hj:h[j]?=some (some (memC W B))) :
  CallAll Tryz.prog 31 [.pointer (some ⟨i,0,some 0⟩),c.v] h fun v ms=>∃ κ:Unit,(True)∧v=.int .i64 10∧ms=[(i,flP F),(j,memC W B)]:=by
 have key:=qaj (G:=tys) (h:=h) (vs:=[.pointer (some ⟨i,0,some 0⟩),c.v]) (flOK F) (flO W B F) (α:=Unit) (fun κ=>True) (fun κ=>.int .i64 10) [⟨i,flP F,flP F,flP F⟩,⟨j,memC W B,memC W B,memC W B⟩] (fun κ=>[flP F,memC W B]) (fun κ=>[]) [.pointer (some ⟨0,0,some 0⟩),c.v] tysOK mixed Tryz.func31 (by rfl) (Tryz.call31) ⟨hi,hj,trivial⟩ ⟨⟨fun h=>⟨rfl,nlr _⟩,nlr _,nzj⟩,⟨fun h=>⟨rfl,nlr _⟩,nlr _,nzj⟩,trivial⟩ (fun κ _=>⟨⟨fun h=>⟨rfl,nlr _⟩,nlr _,nzj⟩,⟨fun h=>⟨rfl,nlr _⟩,nlr _,nzj⟩,trivial⟩) (by simp[Apart,hij]) ⟨.inr ⟨rfl,rfl⟩,.inr ⟨rfl,rfl⟩,trivial⟩ (fun κ _=>trivial) ⟨.ptr rfl,c.re,trivial⟩ qbe ?_
 ·refine qae key fun v ms hR=>?_
  obtain⟨κ,hκ,rfl,rfl⟩:=hR
  exact⟨κ,hκ,rfl,rfl⟩
 intro β hβ
 repeat' (refine N.go ?_;first|with_reducible refine N.obl rfl ?_|refine N.forkNo (kN (by omega)) ?_|refine N.idx m 1 hnd hm ?_|refine N.load _ (rd_on hm) ?_|refine N.forkYes (by rw[eo];rfl) ?_|fail)
 refine N.go ?_
 refine qbt W B F β (by show 0<F.n;omega) hβ rfl ⟨_,rfl,qbk F,qah⟩ (lt8F rfl rfl rfl rfl rfl rfl rfl rfl) (fun ρ ρ' _=>rfl) ?_
 refine N.some () ⟨trivial,?_⟩
 refine N.obl (.plain rfl) ?_
 refine N.obl ⟨⟨_,rfl,fun h=>h,nlr _,nzj⟩,⟨_,rfl,fun h=>h,nlr _,nzj⟩,trivial⟩ ?_
 refine N.obl trivial ?_
 refine N.obl ⟨⟨.inr ⟨_,rfl,rfl⟩,.inr ⟨_,rfl,rfl⟩,trivial⟩,trivial⟩ ?_
 exact N.true
theorem qv3 (W:World) (B:List By) (F:FS) (hn:0<F.n) (hA:AE W B F.L) (c:Sp) (hk:c.kd=9) (m:Nat) (hm:m<F.n) (hnd:c.nd=(m:Int)) (h64:F.n≤64) (h4:0≤F.C 4∧F.C 4≤100) (h5:0≤F.C 5∧F.C 5≤1000) (ht:0≤F.tm∧F.tm≤1000000) (hst:0≤F.st∧F.st≤16777215) (hl:0≤F.lost∧F.lost≤1000000) (eo:F.on m=true) (hbl:0<(F.s m).bl∧(F.s m).bl<1000) (hsq:0≤(F.s m).seq∧(F.s m).seq<65535) (hb:0≤(F.s m).boot∧(F.s m).boot≤65535) (hid:0≤(F.s m).id∧(F.s m).id<64) (i j:Nat) (hij:i≠j) (h:Hp) (hi:h[i]?=some (some (flP F))) (hj:h[j]?=some (some (memC W B))) :
  CallAll Tryz.prog 31 [.pointer (some ⟨i,0,some 0⟩),c.v] h fun v ms=>∃ κ:List Ml×List By×Int,((AE W κ.2.1 κ.1∧0≤κ.2.2∧κ.2.2≤1000000)∧∀ e,e∈B→e∈κ.2.1)∧v=.int .i64 0∧ms=[(i,flP {{F with s:=upd F.s m {F.s m with bl:=(F.s m).bl-1,seq:=(F.s m).seq+1},st:=min (F.st+1) 16777215,on:=upd F.on m false,lost:=κ.2.2} with L:=κ.1}),(j,memC W κ.2.1)]:=by
 have key:=qaj (G:=tys) (h:=h) (vs:=[.pointer (some ⟨i,0,some 0⟩),c.v]) (flOK F) (flO W B F) (α:=List Ml×List By×Int) (fun κ=>(AE W κ.2.1 κ.1∧0≤κ.2.2∧κ.2.2≤1000000)∧∀ e,e∈B→e∈κ.2.1) (fun κ=>.int .i64 0) [⟨i,flP F,flP F,flP F⟩,⟨j,memC W B,memC W B,memC W B⟩] (fun κ=>[flP {{F with s:=upd F.s m {F.s m with bl:=(F.s m).bl-1,seq:=(F.s m).seq+1},st:=min (F.st+1) 16777215,on:=upd F.on m false,lost:=κ.2.2} with L:=κ.1},memC W κ.2.1]) (fun κ=>[]) [.pointer (some ⟨0,0,some 0⟩),c.v] tysOK mixed Tryz.func31 (by rfl) (Tryz.call31) ⟨hi,hj,trivial⟩ ⟨⟨fun h=>⟨rfl,nlr _⟩,nlr _,nzj⟩,⟨fun h=>⟨rfl,nlr _⟩,nlr _,nzj⟩,trivial⟩ (fun κ _=>⟨⟨fun h=>⟨rfl,nlr _⟩,nlr _,nzj⟩,⟨fun h=>⟨rfl,nlr _⟩,nlr _,nzj⟩,trivial⟩) (by simp[Apart,hij]) ⟨.inr ⟨rfl,rfl⟩,.inr ⟨rfl,rfl⟩,trivial⟩ (fun κ _=>trivial) ⟨.ptr rfl,c.re,trivial⟩ qbe ?_
 ·refine qae key fun v ms hR=>?_
  obtain⟨κ,hκ,rfl,rfl⟩:=hR
  exact⟨κ,hκ,rfl,rfl⟩
 intro β hβ
 obtain⟨⟨A,hAA⟩,hAl⟩:=hA
 have hnow:0≤(locN (offN m 7 (F.C 4)) F.tm)∧(locN (offN m 7 (F.C 4)) F.tm)≤1000000:=by unfold locN;omega
 repeat' (refine N.go ?_;first|with_reducible (first|refine N.obl rfl ?_|refine N.forkF ?_)|refine N.forkNo (kN (by omega)) ?_|refine N.idx m 1 hnd hm ?_|refine N.load _ (rd_on hm) ?_|refine N.call (cStep F.C F.n β.1 2 3 4 F.P F.M F.tm F.st true true _ (by rfl) (by rfl) (by rfl) (by decide) (by decide) ht hst) ?_|refine N.forkNo (by rw[eo];rfl) ?_|fail)
 refine N.go ?_
 refine N.altP ?_
 refine N.go ?_
 refine N.plan [0,1,2,3,4,5,6,7,8,9,10,11,12,13,14,15,16,17,18,19,20,21,23] [(22,[]),(24,[])] (by kernel_rfl) ?_
 repeat' (refine N.go ?_;first|refine N.idx m 1 hnd hm ?_|refine N.load _ (rd_pr hm hβ.2 rfl) ?_|((try rw[hnd]);refine N.call (cNowY F.C F.n β.1 2 3 4 F.P F.M F.tm _ true true true m _ (by rfl) (by rfl) (by rfl) hm h64 h4) ?_)|((try rw[hnd]);refine N.call (qoj F.C F.n β.1 2 3 4 F.P F.M F.tm _ true true true m _ _ (by rfl) (by rfl) (by rfl) hm h64 h5) ?_)|fail)
 refine N.go ?_
 (try rw[hnd])
 refine qa4 [5,10,11] _ (by show midB _ _ _ _=Bool.true;kernel_rfl) (fun h₂ hh=>qrv F.n m F.g F.s hm hbl hsq hb (locN (offN m 7 (F.C 4)) F.tm) _ 5 10 11 (by decide) h₂ ((hh 5 (by simp)).trans rfl) ((hh 10 (by simp)).trans rfl) ((hh 11 (by simp)).trans rfl)) fun v ms hR=>?_
 obtain⟨κ,hκ,rfl,rfl⟩:=hR
 refine⟨by simp,?_⟩
 skip
 refine N.go ?_
 (try rw[hnd])
 refine qa4 [0,2,3,4,5,6,7,1,11] _ (by show midB _ _ _ _=Bool.true;kernel_rfl) (fun h₂ hh=>qlg F.C F.n β.2 β.1 ⟨hn,h64⟩ h5 F.lost hl F.P F.M F.tm _ _ F.on (prF F.g F.n) W B F.L A hAA m hm _ 7 (F.s m).id (F.s m).boot (F.s m).seq (locN (offN m 7 (F.C 4)) F.tm) 0 0 0 0 0 0 0 0 0 0 _ κ (qas (by decide)) (qas (by omega)) (qas (by omega)) (qas (by omega)) (qas (by omega)) (qas (by decide)) (qas (by decide)) (qas (by decide)) (qas (by decide)) (qas (by decide)) (qas (by decide)) (qas (by decide)) (qas (by decide)) (qas (by decide)) (qas (by decide))  (fun h=>q21 _ _ _ _ hid hb ⟨hsq.1,by omega⟩ hnow h) 0 2 3 4 5 6 7 1 11 h₂ ((hh 0 (by simp)).trans rfl) ((hh 2 (by simp)).trans rfl) ((hh 3 (by simp)).trans rfl) ((hh 4 (by simp)).trans rfl) ((hh 5 (by simp)).trans rfl) ((hh 6 (by simp)).trans rfl) ((hh 7 (by simp)).trans rfl) ((hh 1 (by simp)).trans rfl) ((hh 11 (by simp)).trans rfl) (by decide)) fun v ms hR=>?_
 obtain⟨L2,B2,hA2,hM2,rfl,rfl⟩:=hR
 refine⟨by simp,?_⟩
 repeat' (refine N.go ?_;first|with_reducible refine N.obl (by decide) ?_|refine N.idx m 1 rfl hm ?_|refine N.store _ (wr_on hm) ?_|fail)
 refine N.go ?_
 refine qbt W B2 {F with s:=upd F.s m {F.s m with bl:=(F.s m).bl-1,seq:=(F.s m).seq+1},st:=min (F.st+1) 16777215,on:=upd F.on m false,lost:=(sendA m F.on (mkA F.C F.P (encB 7 (F.s m).id (F.s m).boot (F.s m).seq (locN (offN m 7 (F.C 4)) F.tm) 0 0 0 0 0 0 0 0 0 0) m (F.tm*16777216+min (F.st+1) 16777215)) (A,F.lost) F.n).2,L:=L2} β (by show 0<F.n;omega) hβ rfl ⟨_,rfl,qbk F,qah⟩ (lt8F rfl rfl rfl rfl rfl rfl rfl rfl) (fun ρ ρ' _=>rfl) ?_
 refine N.some (L2,B2,(sendA m F.on (mkA F.C F.P (encB 7 (F.s m).id (F.s m).boot (F.s m).seq (locN (offN m 7 (F.C 4)) F.tm) 0 0 0 0 0 0 0 0 0 0) m (F.tm*16777216+min (F.st+1) 16777215)) (A,F.lost) F.n).2) ⟨⟨⟨⟨⟨_,hA2⟩,by show L2.length≤512;rw[hA2.len];exact qi7 _ _ _ _ (by show A.length≤512;rw[←hAA.len];exact hAl) _⟩,qfg _ _ _ _ hl _⟩,hM2⟩,?_⟩
 refine N.obl (.plain rfl) ?_
 refine N.obl ⟨⟨_,rfl,fun h=>h,nlr _,nzj⟩,⟨_,rfl,fun h=>h,nlr _,nzj⟩,trivial⟩ ?_
 refine N.obl trivial ?_
 refine N.obl ⟨⟨.inr ⟨_,rfl,rfl⟩,.inr ⟨_,rfl,rfl⟩,trivial⟩,trivial⟩ ?_
 exact N.true
open Go Go.RowKit Sx
theorem q02 {cap n m p:Nat} {g:Nat→Nat×Nat} {q:Nat×Nat} (h:m<n) (hc:n≤cap) (hp:p=m):Writes (prC cap (prF g n)) p 1 (realP q) (prC cap (prF (upd g m q) n)):=by
 subst hp
 refine⟨rfl,by show p+1≤cap;omega,rfl,fun j hj=>?_⟩
 have hj:j<cap:=hj
 rw[qaq hj,qaq hj]
 by_cases e:j=p
 ·subst e
  rw[q0z _ h,qb7,if_pos (by omega),Nat.sub_self]
  rfl
 ·rw[if_neg (by omega)]
  unfold prF
  rw[qbz _ _ e]
theorem qzr (F:FS) (hn:0<F.n) (m:Nat) (hm:m<F.n) (ex ey ea eb ed:Int) (hz:¬ (ex=0∧ey=0∧ea=0∧eb=0∧ed=0)) (hin:¬ inP ex ey ea eb ed (F.P (m*2)) (F.P (m*2+1))) (i:Nat) (h:Hp) (hi:h[i]?=some (some (flP F))) :
  CallAll Tryz.prog 64 [.pointer (some ⟨i,0,some 0⟩),.int .i64 (m:Int),elV ex ey ea eb ed] h fun v ms=>∃ κ:Unit,v=.int .i64 1∧ms=[(i,flP F)]:=by
 have key:=qaj (G:=tys) (h:=h) (vs:=[.pointer (some ⟨i,0,some 0⟩),.int .i64 (m:Int),elV ex ey ea eb ed]) (flOK F) (flH F) (α:=Unit) (fun κ=>True) (fun κ=>.int .i64 1) [⟨i,flP F,flP F,flP F⟩] (fun κ=>[flP F]) (fun κ=>[]) [.pointer (some ⟨0,0,some 0⟩),.int .i64 (m:Int),elV ex ey ea eb ed] tysOK mixed Tryz.func64 (by rfl) (Tryz.call64) ⟨hi,trivial⟩ ⟨⟨fun h=>⟨rfl,nlr _⟩,nlr _,nzj⟩,trivial⟩ (fun κ _=>⟨⟨fun h=>⟨rfl,nlr _⟩,nlr _,nzj⟩,trivial⟩) (by simp[Apart]) ⟨.inr ⟨rfl,rfl⟩,trivial⟩ (fun κ _=>trivial) ⟨.ptr rfl,.plain rfl,.plain rfl,trivial⟩ qat ?_
 ·refine qae key fun v ms hR=>?_
  obtain⟨κ,_,rfl,rfl⟩:=hR
  exact⟨κ,rfl,rfl⟩
 intro β hβ
 repeat' (refine N.go ?_;first|with_reducible (first|refine N.obl rfl ?_|refine N.forkT ?_)|refine N.call (qg8 F.C F.n β.1 1 2 3 F.P F.M F.tm F.st true true true m _ (by rfl) (by rfl) (by rfl) hm) ?_|refine N.bin _ (qiv _ _ _ _ _ _ _ _ _ _ _ _) ?_|refine N.call (cIn4 ex ey ea eb ed _ _ _) ?_|refine N.forkYes (by rw[z_ell,decide_eq_true_eq];exact hz) ?_|refine N.forkYes (ndT hin) ?_|fail)
 refine N.go ?_
 refine qcl F β (by show 0<F.n;omega) hβ rfl ⟨_,rfl,qbk F,qah⟩ (lt7F rfl rfl rfl rfl rfl rfl rfl) (fun ρ ρ' _=>rfl) ?_
 refine N.some () ⟨trivial,?_⟩
 refine N.obl (.plain rfl) ?_
 refine N.obl ⟨⟨_,rfl,fun h=>h,nlr _,nzj⟩,trivial⟩ ?_
 refine N.obl trivial ?_
 refine N.obl ⟨⟨.inr ⟨_,rfl,rfl⟩,trivial⟩,trivial⟩ ?_
 exact N.true
theorem qzs (F:FS) (hn:0<F.n) (m:Nat) (hm:m<F.n) (ex ey ea eb ed:Int) (hz:(ex=0∧ey=0∧ea=0∧eb=0∧ed=0)) (a:NSt) (hb:0≤(F.s m).boot∧(F.s m).boot<65535) (hN:∀ (K:Nat) (h:Hp),h[K]?=some none→qad Tryz.prog 24 [cfV F.C,.int .i64 (m:Int),.int .i64 ((F.s m).boot+1),elV ex ey ea eb ed] h (.pointer (some ⟨K,0,some 0⟩)) [(K,ndP a)] []) (i:Nat) (h:Hp) (hi:h[i]?=some (some (flP F))) :
  CallAll Tryz.prog 64 [.pointer (some ⟨i,0,some 0⟩),.int .i64 (m:Int),elV ex ey ea eb ed] h fun v ms=>∃ κ:Nat×Nat,v=.int .i64 0∧ms=[(i,flP {F with g:=upd F.g m κ,s:=upd F.s m a,on:=upd F.on m true})]:=by
 have key:=qaj (G:=tys) (h:=h) (vs:=[.pointer (some ⟨i,0,some 0⟩),.int .i64 (m:Int),elV ex ey ea eb ed]) (flOK F) (flH F) (α:=Nat×Nat) (fun κ=>True) (fun κ=>.int .i64 0) [⟨i,flP F,flP F,flP F⟩] (fun κ=>[flP {F with g:=upd F.g m κ,s:=upd F.s m a,on:=upd F.on m true}]) (fun κ=>[]) [.pointer (some ⟨0,0,some 0⟩),.int .i64 (m:Int),elV ex ey ea eb ed] tysOK mixed Tryz.func64 (by rfl) (Tryz.call64) ⟨hi,trivial⟩ ⟨⟨fun h=>⟨rfl,nlr _⟩,nlr _,nzj⟩,trivial⟩ (fun κ _=>⟨⟨fun h=>⟨rfl,nlr _⟩,nlr _,nzj⟩,trivial⟩) (by simp[Apart]) ⟨.inr ⟨rfl,rfl⟩,trivial⟩ (fun κ _=>trivial) ⟨.ptr rfl,.plain rfl,.plain rfl,trivial⟩ qat ?_
 ·refine qae key fun v ms hR=>?_
  obtain⟨κ,_,rfl,rfl⟩:=hR
  exact⟨κ,rfl,rfl⟩
 intro β hβ
 repeat' (refine N.go ?_;first|with_reducible (first|refine N.obl rfl ?_|refine N.forkF ?_)|refine N.call (qg8 F.C F.n β.1 1 2 3 F.P F.M F.tm F.st true true true m _ (by rfl) (by rfl) (by rfl) hm) ?_|refine N.bin _ (qiv _ _ _ _ _ _ _ _ _ _ _ _) ?_|refine N.forkNo (by rw[z_ell,decide_eq_false_iff_not];exact fun h=>h hz) ?_|fail)
 refine N.go ?_
 refine N.altP ?_
 refine N.go ?_
 refine N.plan [0,1,2,3,4,5,6,7,8,9,10,11,12,13,14,15,16,17,18,19,20,21,24] [(22,[23]),(25,[26,27,28,29])] (by kernel_rfl) ?_
 repeat' (refine N.go ?_;first|with_reducible refine N.obl rfl ?_|refine N.idx m 1 rfl hm ?_|refine N.load _ (rd_pr hm hβ.2 rfl) ?_|fail)
 refine N.go ?_
 refine qa4 [4,8] _ (by show midB _ _ _ _=Bool.true;kernel_rfl) (fun h₂ hh=>qne F.n m F.g F.s hm 4 8 h₂ ((hh 4 (by simp)).trans rfl) ((hh 8 (by simp)).trans rfl)) fun v ms hR=>?_
 obtain⟨rfl,rfl⟩:=hR
 refine⟨by simp,?_⟩
 repeat' (refine N.go ?_;first|refine N.call (qk9 _ hb _) ?_|fail)
 refine N.go ?_
 refine qa4 [4,9] _ (by show midB _ _ _ _=Bool.true;kernel_rfl) (fun h₂ hh=>qqy F.n m F.g F.s hm a _ 4 9 h₂ ((hh 4 (by simp)).trans rfl) ((hh 9 (by simp)).trans rfl) hN) fun v ms hR=>?_
 obtain⟨q,rfl,rfl⟩:=hR
 refine⟨by simp,?_⟩
 repeat' (refine N.go ?_;first|refine N.idx m 1 rfl hm ?_|refine N.store _ (q02 hm hβ.2 rfl) ?_|refine N.store _ (wr_on hm) ?_|refine N.obl (by show endB _ _=Bool.true;kernel_rfl) ?_|fail)
 refine N.go ?_
 refine qcl {F with g:=upd F.g m q,s:=upd F.s m a,on:=upd F.on m true} β (by show 0<F.n;omega) hβ rfl ⟨_,rfl,qbk F,qah⟩ (lt7F rfl rfl rfl rfl rfl rfl rfl) (fun ρ ρ' _=>rfl) ?_
 refine N.some q ⟨trivial,?_⟩
 refine N.obl (.plain rfl) ?_
 refine N.obl ⟨⟨_,rfl,fun h=>h,nlr _,nzj⟩,trivial⟩ ?_
 refine N.obl trivial ?_
 refine N.obl ⟨⟨.inr ⟨_,rfl,rfl⟩,trivial⟩,trivial⟩ ?_
 exact N.true
theorem qzt (F:FS) (hn:0<F.n) (m:Nat) (hm:m<F.n) (ex ey ea eb ed:Int) (hz:¬ (ex=0∧ey=0∧ea=0∧eb=0∧ed=0)) (hin:inP ex ey ea eb ed (F.P (m*2)) (F.P (m*2+1))) (a:NSt) (hb:0≤(F.s m).boot∧(F.s m).boot<65535) (hN:∀ (K:Nat) (h:Hp),h[K]?=some none→qad Tryz.prog 24 [cfV F.C,.int .i64 (m:Int),.int .i64 ((F.s m).boot+1),elV ex ey ea eb ed] h (.pointer (some ⟨K,0,some 0⟩)) [(K,ndP a)] []) (i:Nat) (h:Hp) (hi:h[i]?=some (some (flP F))) :
  CallAll Tryz.prog 64 [.pointer (some ⟨i,0,some 0⟩),.int .i64 (m:Int),elV ex ey ea eb ed] h fun v ms=>∃ κ:Nat×Nat,v=.int .i64 0∧ms=[(i,flP {F with g:=upd F.g m κ,s:=upd F.s m a,on:=upd F.on m true})]:=by
 have key:=qaj (G:=tys) (h:=h) (vs:=[.pointer (some ⟨i,0,some 0⟩),.int .i64 (m:Int),elV ex ey ea eb ed]) (flOK F) (flH F) (α:=Nat×Nat) (fun κ=>True) (fun κ=>.int .i64 0) [⟨i,flP F,flP F,flP F⟩] (fun κ=>[flP {F with g:=upd F.g m κ,s:=upd F.s m a,on:=upd F.on m true}]) (fun κ=>[]) [.pointer (some ⟨0,0,some 0⟩),.int .i64 (m:Int),elV ex ey ea eb ed] tysOK mixed Tryz.func64 (by rfl) (Tryz.call64) ⟨hi,trivial⟩ ⟨⟨fun h=>⟨rfl,nlr _⟩,nlr _,nzj⟩,trivial⟩ (fun κ _=>⟨⟨fun h=>⟨rfl,nlr _⟩,nlr _,nzj⟩,trivial⟩) (by simp[Apart]) ⟨.inr ⟨rfl,rfl⟩,trivial⟩ (fun κ _=>trivial) ⟨.ptr rfl,.plain rfl,.plain rfl,trivial⟩ qat ?_
 ·refine qae key fun v ms hR=>?_
  obtain⟨κ,_,rfl,rfl⟩:=hR
  exact⟨κ,rfl,rfl⟩
 intro β hβ
 repeat' (refine N.go ?_;first|with_reducible (first|refine N.obl rfl ?_|refine N.forkT ?_)|refine N.call (qg8 F.C F.n β.1 1 2 3 F.P F.M F.tm F.st true true true m _ (by rfl) (by rfl) (by rfl) hm) ?_|refine N.bin _ (qiv _ _ _ _ _ _ _ _ _ _ _ _) ?_|refine N.call (cIn4 ex ey ea eb ed _ _ _) ?_|refine N.forkYes (by rw[z_ell,decide_eq_true_eq];exact hz) ?_|refine N.forkNo (ndF hin) ?_|fail)
 refine N.go ?_
 refine N.altP ?_
 refine N.go ?_
 refine N.plan [0,1,2,3,4,5,6,7,8,9,10,11,12,13,14,15,16,17,18,19,20,21,24] [(22,[23]),(25,[26,27,28,29])] (by kernel_rfl) ?_
 repeat' (refine N.go ?_;first|with_reducible refine N.obl rfl ?_|refine N.idx m 1 rfl hm ?_|refine N.load _ (rd_pr hm hβ.2 rfl) ?_|fail)
 refine N.go ?_
 refine qa4 [4,8] _ (by show midB _ _ _ _=Bool.true;kernel_rfl) (fun h₂ hh=>qne F.n m F.g F.s hm 4 8 h₂ ((hh 4 (by simp)).trans rfl) ((hh 8 (by simp)).trans rfl)) fun v ms hR=>?_
 obtain⟨rfl,rfl⟩:=hR
 refine⟨by simp,?_⟩
 repeat' (refine N.go ?_;first|refine N.call (qk9 _ hb _) ?_|fail)
 refine N.go ?_
 refine qa4 [4,9] _ (by show midB _ _ _ _=Bool.true;kernel_rfl) (fun h₂ hh=>qqy F.n m F.g F.s hm a _ 4 9 h₂ ((hh 4 (by simp)).trans rfl) ((hh 9 (by simp)).trans rfl) hN) fun v ms hR=>?_
 obtain⟨q,rfl,rfl⟩:=hR
 refine⟨by simp,?_⟩
 repeat' (refine N.go ?_;first|refine N.idx m 1 rfl hm ?_|refine N.store _ (q02 hm hβ.2 rfl) ?_|refine N.store _ (wr_on hm) ?_|refine N.obl (by show endB _ _=Bool.true;kernel_rfl) ?_|fail)
 refine N.go ?_
 refine qcl {F with g:=upd F.g m q,s:=upd F.s m a,on:=upd F.on m true} β (by show 0<F.n;omega) hβ rfl ⟨_,rfl,qbk F,qah⟩ (lt7F rfl rfl rfl rfl rfl rfl rfl) (fun ρ ρ' _=>rfl) ?_
 refine N.some q ⟨trivial,?_⟩
 refine N.obl (.plain rfl) ?_
 refine N.obl ⟨⟨_,rfl,fun h=>h,nlr _,nzj⟩,trivial⟩ ?_
 refine N.obl trivial ?_
 refine N.obl ⟨⟨.inr ⟨_,rfl,rfl⟩,trivial⟩,trivial⟩ ?_
 exact N.true
theorem qv4 {P:Program} {g:FuncId} {vs:List Value} {h:Hp} {R:Value→List (Nat×Chunk)→Prop} (j:Nat) {d:Chunk} (hj:h[j]?=some (some d)) (hn:∀ v ms,R v ms→j∉ms.map (·.1)) (hc:CallAll P g vs h R) :
  CallAll P g vs h fun v ms=>∃ ms0,R v ms0∧ms=ms0++[(j,d)]:=fun X ρ w xs H hx=>by
 have app:∀ (ms:List (Nat×Chunk)) (h:Hp),modH h (ms++[(j,d)])=(modH h ms).set j (some d):=fun ms=>by
  induction ms with
  | nil=>intro h;rfl
  | cons m ms ih=>intro h;exact ih _
 have fix:∀ x w',(∃ v ms ρ',R v ms∧AgreeOn (Fil h) ρ ρ'∧HOK X ρ' (modH h ms) w'∧Den (Fil (modH h ms)) ρ' v x)→∃ v ms ρ',(∃ ms0,R v ms0∧ms=ms0++[(j,d)])∧AgreeOn (Fil h) ρ ρ'∧HOK X ρ' (modH h ms) w'∧Den (Fil (modH h ms)) ρ' v x:=by
  rintro x w' ⟨v,ms,ρ',hr,ha,hh,hd⟩
  have e:modH h (ms++[(j,d)])=modH h ms:=by rw[app];exact qqm ((qbv (hn v ms hr)).trans hj)
  exact⟨v,ms++[(j,d)],ρ',⟨ms,hr,rfl⟩,ha,by rw[e];exact hh,by rw[e];exact hd⟩
 rcases hc X ρ w xs H hx with ⟨x,w',h1,h2⟩|⟨h1,h2⟩
 ·exact .inl ⟨x,w',h1,fix _ _ h2⟩
 ·refine .inr ⟨h1,h2.mono ?_⟩
  rintro e w' ⟨x,he,h3⟩
  exact⟨x,he,fix _ _ h3⟩
def StR (W:World) (R:Int→FS→List By→Prop) (i j:Nat) (v:Value) (ms:List (Nat×Chunk)):Prop:=∃ (e:Int) (F':FS) (B':List By),R e F' B'∧v=.int .i64 e∧ms=[(i,flP F'),(j,memC W B')]
theorem qfh {W:World} {B:List By} {g:FuncId} {vs:List Value} {h:Hp} {R:Int→FS→List By→Prop} {Q:Value→List (Nat×Chunk)→Prop} (i j:Nat) (hij:i≠j) (hj:h[j]?=some (some (memC W B))) (hc:CallAll Tryz.prog g vs h Q) (hQ:∀ v ms,Q v ms→∃ (e:Int) (F':FS),R e F' B∧v=.int .i64 e∧ms=[(i,flP F')]):CallAll Tryz.prog g vs h (StR W R i j):=by
 refine qae (qv4 j hj (fun v ms hq=>?_) hc) fun v ms hR=>?_
 ·obtain⟨e,F',_,_,rfl⟩:=hQ v ms hq
  simpa using Ne.symm hij
 ·obtain⟨ms0,hq,rfl⟩:=hR
  obtain⟨e,F',hr,rfl,rfl⟩:=hQ v ms0 hq
  exact⟨e,F',B,hr,rfl,rfl⟩
theorem qv5 (F:FS) (hn:0<F.n) (x:Int) (hx:0≤x∧x<(F.n:Int)) (i:Nat) (h:Hp) (hi:h[i]?=some (some (flP F))) :
  qad Tryz.prog 30 [.pointer (some ⟨i,0,some 0⟩),.int .i64 x] h (.bool true) [(i,flP F)] []:=by
 refine qax (G:=tys) (flOK F) (flH F) [⟨i,flP F,flP F,flP F⟩] [] [.pointer (some ⟨0,0,some 0⟩),.int .i64 x] tysOK mixed Tryz.func30 (by rfl) (Tryz.call30) ⟨hi,trivial⟩ ⟨⟨fun h=>⟨rfl,nlr _⟩,nlr _,nzj⟩,trivial⟩ (by simp[Apart]) ⟨.inr ⟨rfl,rfl⟩,trivial⟩ trivial ⟨.ptr rfl,.plain rfl,trivial⟩ qat ?_
 intro β hβ
 repeat' (refine N.go ?_;first|with_reducible refine N.forkT ?_|refine N.forkYes (decide_eq_true (by omega)) ?_|fail)
 all_goals
  refine N.go ?_
  refine qcl F β (by omega) hβ rfl ⟨_,rfl,qbk F,qah⟩ (lt7F rfl rfl rfl rfl rfl rfl rfl) (fun ρ ρ' _=>rfl) ?_
  refine N.obl (by first|exact .plain rfl|(rw[decide_eq_true (by omega)];exact .plain rfl)|(rw[decide_eq_false (by omega)];exact .plain rfl)) ?_
  refine N.obl ⟨⟨_,rfl,fun h=>h,nlr _,nzj⟩,trivial⟩ ?_
  refine N.obl trivial ?_
  refine N.obl ⟨⟨.inr ⟨_,rfl,rfl⟩,trivial⟩,trivial⟩ ?_
  exact N.true
theorem qzu (F:FS) (hn:0<F.n) (x:Int) (hx:x<0) (i:Nat) (h:Hp) (hi:h[i]?=some (some (flP F))) :
  qad Tryz.prog 30 [.pointer (some ⟨i,0,some 0⟩),.int .i64 x] h (.bool false) [(i,flP F)] []:=by
 refine qax (G:=tys) (flOK F) (flH F) [⟨i,flP F,flP F,flP F⟩] [] [.pointer (some ⟨0,0,some 0⟩),.int .i64 x] tysOK mixed Tryz.func30 (by rfl) (Tryz.call30) ⟨hi,trivial⟩ ⟨⟨fun h=>⟨rfl,nlr _⟩,nlr _,nzj⟩,trivial⟩ (by simp[Apart]) ⟨.inr ⟨rfl,rfl⟩,trivial⟩ trivial ⟨.ptr rfl,.plain rfl,trivial⟩ qat ?_
 intro β hβ
 repeat' (refine N.go ?_;first|with_reducible (first|refine N.forkT ?_|refine N.forkF ?_)|refine N.forkNo (decide_eq_false (by omega)) ?_|fail)
 all_goals
  refine N.go ?_
  refine qcl F β (by omega) hβ rfl ⟨_,rfl,qbk F,qah⟩ (lt7F rfl rfl rfl rfl rfl rfl rfl) (fun ρ ρ' _=>rfl) ?_
  refine N.obl (by first|exact .plain rfl|(rw[decide_eq_true (by omega)];exact .plain rfl)|(rw[decide_eq_false (by omega)];exact .plain rfl)) ?_
  refine N.obl ⟨⟨_,rfl,fun h=>h,nlr _,nzj⟩,trivial⟩ ?_
  refine N.obl trivial ?_
  refine N.obl ⟨⟨.inr ⟨_,rfl,rfl⟩,trivial⟩,trivial⟩ ?_
  exact N.true
theorem qzv (F:FS) (hn:0<F.n) (x:Int) (hx:0≤x∧(F.n:Int)≤x) (i:Nat) (h:Hp) (hi:h[i]?=some (some (flP F))) :
  qad Tryz.prog 30 [.pointer (some ⟨i,0,some 0⟩),.int .i64 x] h (.bool false) [(i,flP F)] []:=by
 refine qax (G:=tys) (flOK F) (flH F) [⟨i,flP F,flP F,flP F⟩] [] [.pointer (some ⟨0,0,some 0⟩),.int .i64 x] tysOK mixed Tryz.func30 (by rfl) (Tryz.call30) ⟨hi,trivial⟩ ⟨⟨fun h=>⟨rfl,nlr _⟩,nlr _,nzj⟩,trivial⟩ (by simp[Apart]) ⟨.inr ⟨rfl,rfl⟩,trivial⟩ trivial ⟨.ptr rfl,.plain rfl,trivial⟩ qat ?_
 intro β hβ
 repeat' (refine N.go ?_;first|with_reducible refine N.forkT ?_|refine N.forkYes (decide_eq_true (by omega)) ?_|fail)
 all_goals
  refine N.go ?_
  refine qcl F β (by omega) hβ rfl ⟨_,rfl,qbk F,qah⟩ (lt7F rfl rfl rfl rfl rfl rfl rfl) (fun ρ ρ' _=>rfl) ?_
  refine N.obl (by first|exact .plain rfl|(rw[decide_eq_false (by omega)];exact .plain rfl)) ?_
  refine N.obl ⟨⟨_,rfl,fun h=>h,nlr _,nzj⟩,trivial⟩ ?_
  refine N.obl trivial ?_
  refine N.obl ⟨⟨.inr ⟨_,rfl,rfl⟩,trivial⟩,trivial⟩ ?_
  exact N.true
theorem qv6 (F:FS) (hn:0<F.n) (x:Int) (hx:¬ (0≤x∧x<(F.n:Int))) (i:Nat) (h:Hp) (hi:h[i]?=some (some (flP F))) :
  qad Tryz.prog 30 [.pointer (some ⟨i,0,some 0⟩),.int .i64 x] h (.bool false) [(i,flP F)] []:=by
 by_cases h0:x<0
 ·exact qzu F hn x h0 i h hi
 ·exact qzv F hn x (by omega) i h hi
theorem qr2 (W:World) (B:List By) (F:FS) (hn:0<F.n) (c:Sp) (R:Int→FS→List By→Prop) (hk:c.kd=2) (hS:∀ h:Hp,h[0]?=some (some (flP F))→h[1]?=some (some (memC W B))→CallAll Tryz.prog 27 [.pointer (some ⟨0,0,some 0⟩)] h (StR W R 0 1)) (i j:Nat) (hij:i≠j) (h:Hp) (hi:h[i]?=some (some (flP F))) (hj:h[j]?=some (some (memC W B))) :
  CallAll Tryz.prog 10 [.pointer (some ⟨i,0,some 0⟩),c.v] h (StR W R i j):=by
 have key:=qaj (G:=tys) (h:=h) (vs:=[.pointer (some ⟨i,0,some 0⟩),c.v]) (fun _:Unit=>True) (fun _=>_) (α:=Int×FS×List By) (fun κ=>R κ.1 κ.2.1 κ.2.2) (fun κ=>.int .i64 κ.1) [⟨i,flP F,flP F,flP F⟩,⟨j,memC W B,memC W B,memC W B⟩] (fun κ=>[flP κ.2.1,memC W κ.2.2]) (fun κ=>[]) [.pointer (some ⟨0,0,some 0⟩),c.v] tysOK mixed Tryz.func10 (by rfl) (Tryz.call10) ⟨hi,hj,trivial⟩ ⟨⟨fun h=>⟨rfl,nlr _⟩,nlr _,nzj⟩,⟨fun h=>⟨rfl,nlr _⟩,nlr _,nzj⟩,trivial⟩ (fun κ _=>⟨⟨fun h=>⟨rfl,nlr _⟩,nlr _,nzj⟩,⟨fun h=>⟨rfl,nlr _⟩,nlr _,nzj⟩,trivial⟩) (by simp[Apart,hij]) ⟨.inr ⟨rfl,rfl⟩,.inr ⟨rfl,rfl⟩,trivial⟩ (fun κ _=>trivial) ⟨.ptr rfl,c.re,trivial⟩ Opens.same ?_
 ·refine qae key fun v ms hR=>?_
  obtain⟨κ,hκ,rfl,rfl⟩:=hR
  exact⟨_,_,_,hκ,rfl,rfl⟩
 rintro⟨⟩ -
 repeat' (refine N.go ?_;first|with_reducible (first|refine N.obl rfl ?_|refine N.forkF ?_)|refine N.forkNo (kN (by omega)) ?_|refine N.forkYes (kY (by omega)) ?_|fail)
 refine N.go ?_
 refine N.callAll (hS _ (by rfl) (by rfl)) fun v ms hR=>?_
 obtain⟨e,F',B',hR,rfl,rfl⟩:=hR
 skip
 refine N.go ?_
 refine N.endSame ?_
 refine N.some (e,F',B') ⟨hR,?_⟩
 refine N.obl (.plain rfl) ?_
 refine N.obl ⟨⟨_,rfl,fun h=>h,nlr _,nzj⟩,⟨_,rfl,fun h=>h,nlr _,nzj⟩,trivial⟩ ?_
 refine N.obl trivial ?_
 refine N.obl ⟨⟨.inr ⟨_,rfl,rfl⟩,.inr ⟨_,rfl,rfl⟩,trivial⟩,trivial⟩ ?_
 exact N.true
theorem qov (W:World) (B:List By) (F:FS) (hn:0<F.n) (c:Sp) (R:Int→FS→List By→Prop) (hk:c.kd=4) (hS:∀ h:Hp,h[0]?=some (some (flP F))→h[1]?=some (some (memC W B))→CallAll Tryz.prog 29 [.pointer (some ⟨0,0,some 0⟩),c.v] h (StR W R 0 1)) (i j:Nat) (hij:i≠j) (h:Hp) (hi:h[i]?=some (some (flP F))) (hj:h[j]?=some (some (memC W B))) :
  CallAll Tryz.prog 10 [.pointer (some ⟨i,0,some 0⟩),c.v] h (StR W R i j):=by
 have key:=qaj (G:=tys) (h:=h) (vs:=[.pointer (some ⟨i,0,some 0⟩),c.v]) (fun _:Unit=>True) (fun _=>_) (α:=Int×FS×List By) (fun κ=>R κ.1 κ.2.1 κ.2.2) (fun κ=>.int .i64 κ.1) [⟨i,flP F,flP F,flP F⟩,⟨j,memC W B,memC W B,memC W B⟩] (fun κ=>[flP κ.2.1,memC W κ.2.2]) (fun κ=>[]) [.pointer (some ⟨0,0,some 0⟩),c.v] tysOK mixed Tryz.func10 (by rfl) (Tryz.call10) ⟨hi,hj,trivial⟩ ⟨⟨fun h=>⟨rfl,nlr _⟩,nlr _,nzj⟩,⟨fun h=>⟨rfl,nlr _⟩,nlr _,nzj⟩,trivial⟩ (fun κ _=>⟨⟨fun h=>⟨rfl,nlr _⟩,nlr _,nzj⟩,⟨fun h=>⟨rfl,nlr _⟩,nlr _,nzj⟩,trivial⟩) (by simp[Apart,hij]) ⟨.inr ⟨rfl,rfl⟩,.inr ⟨rfl,rfl⟩,trivial⟩ (fun κ _=>trivial) ⟨.ptr rfl,c.re,trivial⟩ Opens.same ?_
 ·refine qae key fun v ms hR=>?_
  obtain⟨κ,hκ,rfl,rfl⟩:=hR
  exact⟨_,_,_,hκ,rfl,rfl⟩
 rintro⟨⟩ -
 repeat' (refine N.go ?_;first|with_reducible (first|refine N.obl rfl ?_|refine N.forkT ?_|refine N.forkF ?_)|refine N.forkNo (kN (by omega)) ?_|refine N.forkYes (kY (by omega)) ?_|fail)
 refine N.go ?_
 refine N.callAll (hS _ (by rfl) (by rfl)) fun v ms hR=>?_
 obtain⟨e,F',B',hR,rfl,rfl⟩:=hR
 skip
 refine N.go ?_
 refine N.endSame ?_
 refine N.some (e,F',B') ⟨hR,?_⟩
 refine N.obl (.plain rfl) ?_
 refine N.obl ⟨⟨_,rfl,fun h=>h,nlr _,nzj⟩,⟨_,rfl,fun h=>h,nlr _,nzj⟩,trivial⟩ ?_
 refine N.obl trivial ?_
 refine N.obl ⟨⟨.inr ⟨_,rfl,rfl⟩,.inr ⟨_,rfl,rfl⟩,trivial⟩,trivial⟩ ?_
 exact N.true
theorem qow (W:World) (B:List By) (F:FS) (hn:0<F.n) (c:Sp) (R:Int→FS→List By→Prop) (hk:c.kd=5) (hS:∀ h:Hp,h[0]?=some (some (flP F))→h[1]?=some (some (memC W B))→CallAll Tryz.prog 29 [.pointer (some ⟨0,0,some 0⟩),c.v] h (StR W R 0 1)) (i j:Nat) (hij:i≠j) (h:Hp) (hi:h[i]?=some (some (flP F))) (hj:h[j]?=some (some (memC W B))) :
  CallAll Tryz.prog 10 [.pointer (some ⟨i,0,some 0⟩),c.v] h (StR W R i j):=by
 have key:=qaj (G:=tys) (h:=h) (vs:=[.pointer (some ⟨i,0,some 0⟩),c.v]) (fun _:Unit=>True) (fun _=>_) (α:=Int×FS×List By) (fun κ=>R κ.1 κ.2.1 κ.2.2) (fun κ=>.int .i64 κ.1) [⟨i,flP F,flP F,flP F⟩,⟨j,memC W B,memC W B,memC W B⟩] (fun κ=>[flP κ.2.1,memC W κ.2.2]) (fun κ=>[]) [.pointer (some ⟨0,0,some 0⟩),c.v] tysOK mixed Tryz.func10 (by rfl) (Tryz.call10) ⟨hi,hj,trivial⟩ ⟨⟨fun h=>⟨rfl,nlr _⟩,nlr _,nzj⟩,⟨fun h=>⟨rfl,nlr _⟩,nlr _,nzj⟩,trivial⟩ (fun κ _=>⟨⟨fun h=>⟨rfl,nlr _⟩,nlr _,nzj⟩,⟨fun h=>⟨rfl,nlr _⟩,nlr _,nzj⟩,trivial⟩) (by simp[Apart,hij]) ⟨.inr ⟨rfl,rfl⟩,.inr ⟨rfl,rfl⟩,trivial⟩ (fun κ _=>trivial) ⟨.ptr rfl,c.re,trivial⟩ Opens.same ?_
 ·refine qae key fun v ms hR=>?_
  obtain⟨κ,hκ,rfl,rfl⟩:=hR
  exact⟨_,_,_,hκ,rfl,rfl⟩
 rintro⟨⟩ -
 repeat' (refine N.go ?_;first|with_reducible (first|refine N.obl rfl ?_|refine N.forkT ?_|refine N.forkF ?_)|refine N.forkNo (kN (by omega)) ?_|refine N.forkYes (kY (by omega)) ?_|fail)
 refine N.go ?_
 refine N.callAll (hS _ (by rfl) (by rfl)) fun v ms hR=>?_
 obtain⟨e,F',B',hR,rfl,rfl⟩:=hR
 skip
 refine N.go ?_
 refine N.endSame ?_
 refine N.some (e,F',B') ⟨hR,?_⟩
 refine N.obl (.plain rfl) ?_
 refine N.obl ⟨⟨_,rfl,fun h=>h,nlr _,nzj⟩,⟨_,rfl,fun h=>h,nlr _,nzj⟩,trivial⟩ ?_
 refine N.obl trivial ?_
 refine N.obl ⟨⟨.inr ⟨_,rfl,rfl⟩,.inr ⟨_,rfl,rfl⟩,trivial⟩,trivial⟩ ?_
 exact N.true
theorem qox (W:World) (B:List By) (F:FS) (hn:0<F.n) (c:Sp) (R:Int→FS→List By→Prop) (hk:c.kd=6) (hS:∀ h:Hp,h[0]?=some (some (flP F))→h[1]?=some (some (memC W B))→CallAll Tryz.prog 29 [.pointer (some ⟨0,0,some 0⟩),c.v] h (StR W R 0 1)) (i j:Nat) (hij:i≠j) (h:Hp) (hi:h[i]?=some (some (flP F))) (hj:h[j]?=some (some (memC W B))) :
  CallAll Tryz.prog 10 [.pointer (some ⟨i,0,some 0⟩),c.v] h (StR W R i j):=by
 have key:=qaj (G:=tys) (h:=h) (vs:=[.pointer (some ⟨i,0,some 0⟩),c.v]) (fun _:Unit=>True) (fun _=>_) (α:=Int×FS×List By) (fun κ=>R κ.1 κ.2.1 κ.2.2) (fun κ=>.int .i64 κ.1) [⟨i,flP F,flP F,flP F⟩,⟨j,memC W B,memC W B,memC W B⟩] (fun κ=>[flP κ.2.1,memC W κ.2.2]) (fun κ=>[]) [.pointer (some ⟨0,0,some 0⟩),c.v] tysOK mixed Tryz.func10 (by rfl) (Tryz.call10) ⟨hi,hj,trivial⟩ ⟨⟨fun h=>⟨rfl,nlr _⟩,nlr _,nzj⟩,⟨fun h=>⟨rfl,nlr _⟩,nlr _,nzj⟩,trivial⟩ (fun κ _=>⟨⟨fun h=>⟨rfl,nlr _⟩,nlr _,nzj⟩,⟨fun h=>⟨rfl,nlr _⟩,nlr _,nzj⟩,trivial⟩) (by simp[Apart,hij]) ⟨.inr ⟨rfl,rfl⟩,.inr ⟨rfl,rfl⟩,trivial⟩ (fun κ _=>trivial) ⟨.ptr rfl,c.re,trivial⟩ Opens.same ?_
 ·refine qae key fun v ms hR=>?_
  obtain⟨κ,hκ,rfl,rfl⟩:=hR
  exact⟨_,_,_,hκ,rfl,rfl⟩
 rintro⟨⟩ -
 repeat' (refine N.go ?_;first|with_reducible (first|refine N.obl rfl ?_|refine N.forkF ?_)|refine N.forkNo (kN (by omega)) ?_|refine N.forkYes (kY (by omega)) ?_|fail)
 refine N.go ?_
 refine N.callAll (hS _ (by rfl) (by rfl)) fun v ms hR=>?_
 obtain⟨e,F',B',hR,rfl,rfl⟩:=hR
 skip
 refine N.go ?_
 refine N.endSame ?_
 refine N.some (e,F',B') ⟨hR,?_⟩
 refine N.obl (.plain rfl) ?_
 refine N.obl ⟨⟨_,rfl,fun h=>h,nlr _,nzj⟩,⟨_,rfl,fun h=>h,nlr _,nzj⟩,trivial⟩ ?_
 refine N.obl trivial ?_
 refine N.obl ⟨⟨.inr ⟨_,rfl,rfl⟩,.inr ⟨_,rfl,rfl⟩,trivial⟩,trivial⟩ ?_
 exact N.true
theorem qj3 (W:World) (B:List By) (F:FS) (hn:0<F.n) (c:Sp) (R:Int→FS→List By→Prop) (hk:c.kd=8) (hx:0≤c.nd∧c.nd<(F.n:Int)) (hS:∀ h:Hp,h[0]?=some (some (flP F))→h[1]?=some (some (memC W B))→CallAll Tryz.prog 31 [.pointer (some ⟨0,0,some 0⟩),c.v] h (StR W R 0 1)) (i j:Nat) (hij:i≠j) (h:Hp) (hi:h[i]?=some (some (flP F))) (hj:h[j]?=some (some (memC W B))) :
  CallAll Tryz.prog 10 [.pointer (some ⟨i,0,some 0⟩),c.v] h (StR W R i j):=by
 have key:=qaj (G:=tys) (h:=h) (vs:=[.pointer (some ⟨i,0,some 0⟩),c.v]) (fun _:Unit=>True) (fun _=>_) (α:=Int×FS×List By) (fun κ=>R κ.1 κ.2.1 κ.2.2) (fun κ=>.int .i64 κ.1) [⟨i,flP F,flP F,flP F⟩,⟨j,memC W B,memC W B,memC W B⟩] (fun κ=>[flP κ.2.1,memC W κ.2.2]) (fun κ=>[]) [.pointer (some ⟨0,0,some 0⟩),c.v] tysOK mixed Tryz.func10 (by rfl) (Tryz.call10) ⟨hi,hj,trivial⟩ ⟨⟨fun h=>⟨rfl,nlr _⟩,nlr _,nzj⟩,⟨fun h=>⟨rfl,nlr _⟩,nlr _,nzj⟩,trivial⟩ (fun κ _=>⟨⟨fun h=>⟨rfl,nlr _⟩,nlr _,nzj⟩,⟨fun h=>⟨rfl,nlr _⟩,nlr _,nzj⟩,trivial⟩) (by simp[Apart,hij]) ⟨.inr ⟨rfl,rfl⟩,.inr ⟨rfl,rfl⟩,trivial⟩ (fun κ _=>trivial) ⟨.ptr rfl,c.re,trivial⟩ Opens.same ?_
 ·refine qae key fun v ms hR=>?_
  obtain⟨κ,hκ,rfl,rfl⟩:=hR
  exact⟨_,_,_,hκ,rfl,rfl⟩
 rintro⟨⟩ -
 repeat' (refine N.go ?_;first|with_reducible (first|refine N.obl rfl ?_|refine N.forkT ?_|refine N.forkF ?_)|refine N.forkNo (kN (by omega)) ?_|refine N.forkYes (kY (by omega)) ?_|refine N.call (qv5 F hn c.nd hx 0 _ (by rfl)) ?_|fail)
 refine N.go ?_
 refine N.callAll (hS _ (by rfl) (by rfl)) fun v ms hR=>?_
 obtain⟨e,F',B',hR,rfl,rfl⟩:=hR
 skip
 refine N.go ?_
 refine N.endSame ?_
 refine N.some (e,F',B') ⟨hR,?_⟩
 refine N.obl (.plain rfl) ?_
 refine N.obl ⟨⟨_,rfl,fun h=>h,nlr _,nzj⟩,⟨_,rfl,fun h=>h,nlr _,nzj⟩,trivial⟩ ?_
 refine N.obl trivial ?_
 refine N.obl ⟨⟨.inr ⟨_,rfl,rfl⟩,.inr ⟨_,rfl,rfl⟩,trivial⟩,trivial⟩ ?_
 exact N.true
theorem qj4 (W:World) (B:List By) (F:FS) (hn:0<F.n) (c:Sp) (R:Int→FS→List By→Prop) (hk:c.kd=9) (hx:0≤c.nd∧c.nd<(F.n:Int)) (hS:∀ h:Hp,h[0]?=some (some (flP F))→h[1]?=some (some (memC W B))→CallAll Tryz.prog 31 [.pointer (some ⟨0,0,some 0⟩),c.v] h (StR W R 0 1)) (i j:Nat) (hij:i≠j) (h:Hp) (hi:h[i]?=some (some (flP F))) (hj:h[j]?=some (some (memC W B))) :
  CallAll Tryz.prog 10 [.pointer (some ⟨i,0,some 0⟩),c.v] h (StR W R i j):=by
 have key:=qaj (G:=tys) (h:=h) (vs:=[.pointer (some ⟨i,0,some 0⟩),c.v]) (fun _:Unit=>True) (fun _=>_) (α:=Int×FS×List By) (fun κ=>R κ.1 κ.2.1 κ.2.2) (fun κ=>.int .i64 κ.1) [⟨i,flP F,flP F,flP F⟩,⟨j,memC W B,memC W B,memC W B⟩] (fun κ=>[flP κ.2.1,memC W κ.2.2]) (fun κ=>[]) [.pointer (some ⟨0,0,some 0⟩),c.v] tysOK mixed Tryz.func10 (by rfl) (Tryz.call10) ⟨hi,hj,trivial⟩ ⟨⟨fun h=>⟨rfl,nlr _⟩,nlr _,nzj⟩,⟨fun h=>⟨rfl,nlr _⟩,nlr _,nzj⟩,trivial⟩ (fun κ _=>⟨⟨fun h=>⟨rfl,nlr _⟩,nlr _,nzj⟩,⟨fun h=>⟨rfl,nlr _⟩,nlr _,nzj⟩,trivial⟩) (by simp[Apart,hij]) ⟨.inr ⟨rfl,rfl⟩,.inr ⟨rfl,rfl⟩,trivial⟩ (fun κ _=>trivial) ⟨.ptr rfl,c.re,trivial⟩ Opens.same ?_
 ·refine qae key fun v ms hR=>?_
  obtain⟨κ,hκ,rfl,rfl⟩:=hR
  exact⟨_,_,_,hκ,rfl,rfl⟩
 rintro⟨⟩ -
 repeat' (refine N.go ?_;first|with_reducible (first|refine N.obl rfl ?_|refine N.forkT ?_|refine N.forkF ?_)|refine N.forkNo (kN (by omega)) ?_|refine N.forkYes (kY (by omega)) ?_|refine N.call (qv5 F hn c.nd hx 0 _ (by rfl)) ?_|fail)
 refine N.go ?_
 refine N.callAll (hS _ (by rfl) (by rfl)) fun v ms hR=>?_
 obtain⟨e,F',B',hR,rfl,rfl⟩:=hR
 skip
 refine N.go ?_
 refine N.endSame ?_
 refine N.some (e,F',B') ⟨hR,?_⟩
 refine N.obl (.plain rfl) ?_
 refine N.obl ⟨⟨_,rfl,fun h=>h,nlr _,nzj⟩,⟨_,rfl,fun h=>h,nlr _,nzj⟩,trivial⟩ ?_
 refine N.obl trivial ?_
 refine N.obl ⟨⟨.inr ⟨_,rfl,rfl⟩,.inr ⟨_,rfl,rfl⟩,trivial⟩,trivial⟩ ?_
 exact N.true
theorem qi8 (W:World) (B:List By) (F:FS) (hn:0<F.n) (c:Sp) (R:Int→FS→List By→Prop) (hk:c.kd=8) (hS:∀ h:Hp,h[0]?=some (some (flP F))→h[1]?=some (some (memC W B))→CallAll Tryz.prog 64 [.pointer (some ⟨0,0,some 0⟩),.int .i64 c.nd,elV c.ex c.ey c.ea c.eb c.ed] h (StR W R 0 1)) (i j:Nat) (hij:i≠j) (h:Hp) (hi:h[i]?=some (some (flP F))) (hj:h[j]?=some (some (memC W B))) :
  CallAll Tryz.prog 31 [.pointer (some ⟨i,0,some 0⟩),c.v] h (StR W R i j):=by
 have key:=qaj (G:=tys) (h:=h) (vs:=[.pointer (some ⟨i,0,some 0⟩),c.v]) (fun _:Unit=>True) (fun _=>_) (α:=Int×FS×List By) (fun κ=>R κ.1 κ.2.1 κ.2.2) (fun κ=>.int .i64 κ.1) [⟨i,flP F,flP F,flP F⟩,⟨j,memC W B,memC W B,memC W B⟩] (fun κ=>[flP κ.2.1,memC W κ.2.2]) (fun κ=>[]) [.pointer (some ⟨0,0,some 0⟩),c.v] tysOK mixed Tryz.func31 (by rfl) (Tryz.call31) ⟨hi,hj,trivial⟩ ⟨⟨fun h=>⟨rfl,nlr _⟩,nlr _,nzj⟩,⟨fun h=>⟨rfl,nlr _⟩,nlr _,nzj⟩,trivial⟩ (fun κ _=>⟨⟨fun h=>⟨rfl,nlr _⟩,nlr _,nzj⟩,⟨fun h=>⟨rfl,nlr _⟩,nlr _,nzj⟩,trivial⟩) (by simp[Apart,hij]) ⟨.inr ⟨rfl,rfl⟩,.inr ⟨rfl,rfl⟩,trivial⟩ (fun κ _=>trivial) ⟨.ptr rfl,c.re,trivial⟩ Opens.same ?_
 ·refine qae key fun v ms hR=>?_
  obtain⟨κ,hκ,rfl,rfl⟩:=hR
  exact⟨_,_,_,hκ,rfl,rfl⟩
 rintro⟨⟩ -
 repeat' (refine N.go ?_;first|with_reducible refine N.obl rfl ?_|refine N.forkYes (kY (by omega)) ?_|fail)
 refine N.go ?_
 refine N.callAll (hS _ (by rfl) (by rfl)) fun v ms hR=>?_
 obtain⟨e,F',B',hR,rfl,rfl⟩:=hR
 skip
 refine N.go ?_
 refine N.endSame ?_
 refine N.some (e,F',B') ⟨hR,?_⟩
 refine N.obl (.plain rfl) ?_
 refine N.obl ⟨⟨_,rfl,fun h=>h,nlr _,nzj⟩,⟨_,rfl,fun h=>h,nlr _,nzj⟩,trivial⟩ ?_
 refine N.obl trivial ?_
 refine N.obl ⟨⟨.inr ⟨_,rfl,rfl⟩,.inr ⟨_,rfl,rfl⟩,trivial⟩,trivial⟩ ?_
 exact N.true
open Go Go.RowKit Sx
theorem q03 (F:FS) (hn:0<F.n) (c:Sp) (hk:c.kd<1∨9<c.kd) (i:Nat) (h:Hp) (hi:h[i]?=some (some (flP F))) :
  qad Tryz.prog 10 [.pointer (some ⟨i,0,some 0⟩),c.v] h (.int .i64 1) [(i,flP F)] []:=by
 refine qax (G:=tys) (fun _:Unit=>True) (fun _=>_) [⟨i,flP F,flP F,flP F⟩] [] [.pointer (some ⟨0,0,some 0⟩),c.v] tysOK mixed Tryz.func10 (by rfl) (Tryz.call10) ⟨hi,trivial⟩ ⟨⟨fun h=>⟨rfl,nlr _⟩,nlr _,nzj⟩,trivial⟩ (by simp[Apart]) ⟨.inr ⟨rfl,rfl⟩,trivial⟩ trivial ⟨.ptr rfl,c.re,trivial⟩ Opens.same ?_
 rintro⟨⟩ -
 repeat' (refine N.go ?_;first|with_reducible (first|refine N.obl rfl ?_|refine N.forkF ?_)|refine N.forkNo (kN (by omega)) ?_|fail)
 refine N.go ?_
 refine N.endSame ?_
 refine N.obl (.plain rfl) ?_
 refine N.obl ⟨⟨_,rfl,fun h=>h,nlr _,nzj⟩,trivial⟩ ?_
 refine N.obl trivial ?_
 refine N.obl ⟨⟨.inr ⟨_,rfl,rfl⟩,trivial⟩,trivial⟩ ?_
 exact N.true
theorem qv7 (F:FS) (hn:0<F.n) (c:Sp) (hk:c.kd=8) (hx:¬ (0≤c.nd∧c.nd<(F.n:Int))) (i:Nat) (h:Hp) (hi:h[i]?=some (some (flP F))) :
  qad Tryz.prog 10 [.pointer (some ⟨i,0,some 0⟩),c.v] h (.int .i64 1) [(i,flP F)] []:=by
 refine qax (G:=tys) (fun _:Unit=>True) (fun _=>_) [⟨i,flP F,flP F,flP F⟩] [] [.pointer (some ⟨0,0,some 0⟩),c.v] tysOK mixed Tryz.func10 (by rfl) (Tryz.call10) ⟨hi,trivial⟩ ⟨⟨fun h=>⟨rfl,nlr _⟩,nlr _,nzj⟩,trivial⟩ (by simp[Apart]) ⟨.inr ⟨rfl,rfl⟩,trivial⟩ trivial ⟨.ptr rfl,c.re,trivial⟩ Opens.same ?_
 rintro⟨⟩ -
 repeat' (refine N.go ?_;first|with_reducible (first|refine N.obl rfl ?_|refine N.forkT ?_|refine N.forkF ?_)|refine N.forkNo (kN (by omega)) ?_|refine N.forkYes (kY (by omega)) ?_|refine N.call (qv6 F hn c.nd hx 0 _ (by rfl)) ?_|fail)
 refine N.go ?_
 refine N.endSame ?_
 refine N.obl (.plain rfl) ?_
 refine N.obl ⟨⟨_,rfl,fun h=>h,nlr _,nzj⟩,trivial⟩ ?_
 refine N.obl trivial ?_
 refine N.obl ⟨⟨.inr ⟨_,rfl,rfl⟩,trivial⟩,trivial⟩ ?_
 exact N.true
theorem qv8 (F:FS) (hn:0<F.n) (c:Sp) (hk:c.kd=9) (hx:¬ (0≤c.nd∧c.nd<(F.n:Int))) (i:Nat) (h:Hp) (hi:h[i]?=some (some (flP F))) :
  qad Tryz.prog 10 [.pointer (some ⟨i,0,some 0⟩),c.v] h (.int .i64 1) [(i,flP F)] []:=by
 refine qax (G:=tys) (fun _:Unit=>True) (fun _=>_) [⟨i,flP F,flP F,flP F⟩] [] [.pointer (some ⟨0,0,some 0⟩),c.v] tysOK mixed Tryz.func10 (by rfl) (Tryz.call10) ⟨hi,trivial⟩ ⟨⟨fun h=>⟨rfl,nlr _⟩,nlr _,nzj⟩,trivial⟩ (by simp[Apart]) ⟨.inr ⟨rfl,rfl⟩,trivial⟩ trivial ⟨.ptr rfl,c.re,trivial⟩ Opens.same ?_
 rintro⟨⟩ -
 repeat' (refine N.go ?_;first|with_reducible (first|refine N.obl rfl ?_|refine N.forkF ?_)|refine N.forkNo (kN (by omega)) ?_|refine N.forkYes (kY (by omega)) ?_|refine N.call (qv6 F hn c.nd hx 0 _ (by rfl)) ?_|fail)
 refine N.go ?_
 refine N.endSame ?_
 refine N.obl (.plain rfl) ?_
 refine N.obl ⟨⟨_,rfl,fun h=>h,nlr _,nzj⟩,trivial⟩ ?_
 refine N.obl trivial ?_
 refine N.obl ⟨⟨.inr ⟨_,rfl,rfl⟩,trivial⟩,trivial⟩ ?_
 exact N.true
theorem qv9 (W:World) (B:List By) (F:FS) (hn:0<F.n) (c:Sp) (R:Int→FS→List By→Prop) (hk:c.kd=3) (hS:∀ h:Hp,h[0]?=some (some (flP F))→h[1]?=some (some (memC W B))→CallAll Tryz.prog 28 [.pointer (some ⟨0,0,some 0⟩),.int .i64 c.n] h (StR W R 0 1)) (i j:Nat) (hij:i≠j) (h:Hp) (hi:h[i]?=some (some (flP F))) (hj:h[j]?=some (some (memC W B))) :
  CallAll Tryz.prog 10 [.pointer (some ⟨i,0,some 0⟩),c.v] h (StR W R i j):=by
 have key:=qaj (G:=tys) (h:=h) (vs:=[.pointer (some ⟨i,0,some 0⟩),c.v]) (fun _:Unit=>True) (fun _=>_) (α:=Int×FS×List By) (fun κ=>R κ.1 κ.2.1 κ.2.2) (fun κ=>.int .i64 κ.1) [⟨i,flP F,flP F,flP F⟩,⟨j,memC W B,memC W B,memC W B⟩] (fun κ=>[flP κ.2.1,memC W κ.2.2]) (fun κ=>[]) [.pointer (some ⟨0,0,some 0⟩),c.v] tysOK mixed Tryz.func10 (by rfl) (Tryz.call10) ⟨hi,hj,trivial⟩ ⟨⟨fun h=>⟨rfl,nlr _⟩,nlr _,nzj⟩,⟨fun h=>⟨rfl,nlr _⟩,nlr _,nzj⟩,trivial⟩ (fun κ _=>⟨⟨fun h=>⟨rfl,nlr _⟩,nlr _,nzj⟩,⟨fun h=>⟨rfl,nlr _⟩,nlr _,nzj⟩,trivial⟩) (by simp[Apart,hij]) ⟨.inr ⟨rfl,rfl⟩,.inr ⟨rfl,rfl⟩,trivial⟩ (fun κ _=>trivial) ⟨.ptr rfl,c.re,trivial⟩ Opens.same ?_
 ·refine qae key fun v ms hR=>?_
  obtain⟨κ,hκ,rfl,rfl⟩:=hR
  exact⟨_,_,_,hκ,rfl,rfl⟩
 rintro⟨⟩ -
 repeat' (refine N.go ?_;first|with_reducible (first|refine N.obl rfl ?_|refine N.forkF ?_)|refine N.forkNo (kN (by omega)) ?_|refine N.forkYes (kY (by omega)) ?_|fail)
 refine N.go ?_
 refine N.callAll (hS _ (by rfl) (by rfl)) fun v ms hR=>?_
 obtain⟨e,F',B',hR,rfl,rfl⟩:=hR
 skip
 refine N.go ?_
 refine N.endSame ?_
 refine N.some (e,F',B') ⟨hR,?_⟩
 refine N.obl (.plain rfl) ?_
 refine N.obl ⟨⟨_,rfl,fun h=>h,nlr _,nzj⟩,⟨_,rfl,fun h=>h,nlr _,nzj⟩,trivial⟩ ?_
 refine N.obl trivial ?_
 refine N.obl ⟨⟨.inr ⟨_,rfl,rfl⟩,.inr ⟨_,rfl,rfl⟩,trivial⟩,trivial⟩ ?_
 exact N.true
structure Cr where
 P:Nat→Int
 M:Nat→Bool
 tm:Int
 s:Nat→NSt
 on:Nat→Bool
abbrev FS.cr (F:FS):Cr:=⟨F.P,F.M,F.tm,F.s,F.on⟩
structure NdK (C:Nat→Int) (k m:Nat) (on:Bool) (s:NSt):Prop where
 E:s.T.E=[]
 te:0≤s.te∧s.te≤1000000
 bn:2≤s.bn∧s.bn<1000
 bl:on=true→0<s.bl∧s.bl<1000
 seq:0≤s.seq∧s.seq≤k
 boot:0≤s.boot∧s.boot≤k
 id:s.id=m
 may:s.fv=true→mayP s.fx s.fy s.fa s.fb s.fd
 C:s.C=C
structure CrOK (C:Nat→Int) (n k:Nat) (c:Cr):Prop where
 nd:∀ m,m<n→NdK C k m (c.on m) (c.s m)
 P:∀ m,m<n→wiB (c.P (m*2)) (c.P (m*2+1)) 4194304
 tm:0≤c.tm∧c.tm≤k
structure FlE (W:World) (B:List By) (F:FS):Prop where
 st:0≤F.st∧F.st≤16777215
 lost:0≤F.lost∧F.lost≤1000000
 air:AE W B F.L
theorem NdK.more {C:Nat→Int} {k k' m:Nat} {on:Bool} {s:NSt} (h:NdK C k m on s) (hk:k≤k'):NdK C k' m on s:=
 ⟨h.E,h.te,h.bn,h.bl,by have:=h.seq;omega,by have:=h.boot;omega,h.id,h.may,h.C⟩
theorem CrOK.more {C:Nat→Int} {n k k':Nat} {c:Cr} (h:CrOK C n k c) (hk:k≤k'):CrOK C n k' c:=
 ⟨fun m hm=>(h.nd m hm).more hk,h.P,by have:=h.tm;omega⟩
theorem NdK.tick {C:Nat→Int} {k m:Nat} {on:Bool} {s:NSt} (h:NdK C k m on s) (hk:k<60000) (hm:m<64):NdOK s:=
 ⟨⟨h.E,h.te,by have:=h.bn;omega,by have:=h.seq;omega,by have:=h.boot;omega⟩,by rw[h.id];omega,h.may⟩
def tickC (on:Nat→Bool) (now:Nat→Int) (s:Nat→NSt):Nat→Nat→NSt
 | 0=>s
 | j+1=>if on j=true then upd (tickC on now s j) j (tickS (tickC on now s j j) (now j)) else tickC on now s j
theorem qi9 (C P:Nat→Int) (n:Nat) (on:Nat→Bool) (now:Nat→Int) (g:Int) (z:(Nat→NSt)×(List Am×Int)):∀ j,(tickA C P n on now g z j).1=tickC on now z.1 j
 | 0=>rfl
 | j+1=>by
  have ih:=qi9 C P n on now g z j
  unfold tickA tickC
  split
  ·show upd _ _ _=_
   rw[ih]
  ·exact ih
theorem qhx (on:Nat→Bool) (now:Nat→Int) (s:Nat→NSt) (k:Nat):∀ j,j≤k→tickC on now s j k=s k
 | 0,_=>rfl
 | j+1,h=>by
  unfold tickC
  split
  ·rw[qbz _ _ (by omega)];exact qhx on now s k j (by omega)
  ·exact qhx on now s k j (by omega)
theorem qhy (on:Nat→Bool) (now:Nat→Int) (s:Nat→NSt) (k:Nat):∀ j,k<j→tickC on now s j k=if on k=true then tickS (s k) (now k) else s k
 | 0,h=>absurd h (Nat.not_lt_zero _)
 | j+1,h=>by
  by_cases e:k=j
  ·subst e
   unfold tickC
   by_cases ho:on k=true
   ·rw[if_pos ho,if_pos ho,qb7,qhx on now s k k (nlr _)]
   ·rw[if_neg ho,if_neg ho,qhx on now s k k (nlr _)]
  ·have ih:=qhy on now s k j (by omega)
   unfold tickC
   split
   ·rw[qbz _ _ e];exact ih
   ·exact ih
theorem qnf (C P:Nat→Int) (n:Nat) (on:Nat→Bool) (now:Nat→Int) (g:Int) (z:(Nat→NSt)×(List Am×Int)) (h:z.2.1.length≤512):∀ j,(tickA C P n on now g z j).2.1.length≤512
 | 0=>h
 | j+1=>by
  have ih:=qnf C P n on now g z h j
  unfold tickA
  split
  ·show(tellA _ _ _ _ _ _).1.length≤512
   unfold tellA
   split
   ·exact ih
   ·exact qi7 _ _ _ _ ih _
  ·exact ih
theorem NdK.tickS {C:Nat→Int} {k m:Nat} {s:NSt} (h:NdK C k m true s) (hk:k<60000) (now:Int) (hnow:0≤now∧now≤1000000):NdK C (k+1) m true (tickS s now):=by
 obtain⟨a1,a2,a3,a4,a5,a6,a7,a8,a9⟩:=h
 unfold Go.Proofs.YtdljelmbjdjpjaaGreat.tickS
 split
 ·exact⟨a1,a2,a3,fun _=>by show 0<s.bn∧s.bn<1000;omega,by show 0≤s.seq∧s.seq≤((k+1:Nat):Int);omega,by show 0≤s.boot∧s.boot≤((k+1:Nat):Int);omega,a7,a8,a9⟩
 ·exact⟨a1,a2,a3,fun _=>by show 0<s.bn-1∧s.bn-1<1000;omega,by show 0≤s.seq+1∧s.seq+1≤((k+1:Nat):Int);omega,by show 0≤s.boot∧s.boot≤((k+1:Nat):Int);omega,a7,a8,a9⟩
theorem qqz (s:NSt) (now:Int):(tickS s now).fv=s.fv:=by
 unfold tickS
 split<;>rfl
def Sp.z (c:Sp):Prop:=c.ex=0∧c.ey=0∧c.ea=0∧c.eb=0∧c.ed=0
structure StepF (n:Nat) (c c':Cr) (sp:Sp) (e:Int):Prop where
 boot:sp.kd=8→e=0→0≤sp.nd∧sp.nd<(n:Int)
 know:∀ m,m<n→(c'.s m).fv=true→(sp.kd=8∧e=0∧sp.nd=(m:Int)∧¬ sp.z)∨(¬ (sp.kd=8∧e=0∧sp.nd=(m:Int))∧(c.s m).fv=true)
theorem StepF.same (n:Nat) (c:Cr) (sp:Sp) (e:Int) (he:e≠0∨sp.kd≠8):StepF n c c sp e:=
 ⟨fun h1 h2=>by omega,fun m _ hv=>.inr ⟨fun h=>by omega,hv⟩⟩
def StepP (W:World) (C:Nat→Int) (n:Nat) (c':Cr) (e:Int) (e':Int) (F':FS) (B':List By):Prop:=e'=e∧F'.C=C∧F'.n=n∧F'.cr=c'∧FlE W B' F'
def qey (C:Nat→Int) (n:Nat) (c:Cr) (sp:Sp) (e:Int) (c':Cr):Prop:=∀ (W:World) (B:List By) (F:FS),F.C=C→F.n=n→F.cr=c→FlE W B F→∀ (i j:Nat),i≠j→∀ (h:Hp),h[i]?=some (some (flP F))→h[j]?=some (some (memC W B))→CallAll Tryz.prog 10 [.pointer (some ⟨i,0,some 0⟩),sp.v] h (StR W (fun e' F' B'=>StepP W C n c' e e' F' B'∧∀ x,x∈B→x∈B') i j)
theorem qwa (C:Nat→Int) (n:Nat) (hC:CfOK C) (hn:1≤n∧n≤64) (k:Nat) (hk:k<60000) (c:Cr) (ok:CrOK C n k c) (sp:Sp) (h2:sp.kd=2):∃ (e:Int) (c':Cr),CrOK C n (k+1) c'∧StepF n c c' sp e∧qey C n c sp e c':=by
 have now_b:∀ j,0≤locN (offN j 7 (C 4)) (c.tm+1)∧locN (offN j 7 (C 4)) (c.tm+1)≤1000000:=fun j=>by unfold locN;omega
 refine⟨0,⟨c.P,fun _=>false,c.tm+1,tickC c.on (fun j=>locN (offN j 7 (C 4)) (c.tm+1)) c.s n,c.on⟩,⟨fun m hm=>?_,ok.P,by have:=ok.tm;show 0≤c.tm+1∧c.tm+1≤((k+1:Nat):Int);omega⟩,⟨fun h=>by omega,fun m hm hv=>?_⟩,fun W B F hFC hFn hFc hE i j hij h hi hj=>?_⟩
 ·show NdK C (k+1) m (c.on m) (tickC c.on _ c.s n m)
  rw[qhy _ _ _ _ _ hm]
  have h1:=ok.nd m hm
  cases ho:c.on m with
  | false=>rw[if_neg (by simp)];rw[ho] at h1;exact h1.more (Nat.le_succ _)
  | true=>rw[if_pos rfl];rw[ho] at h1;exact h1.tickS hk _ (now_b m)
 ·have hv:(tickC c.on _ c.s n m).fv=true:=hv
  rw[qhy _ _ _ _ _ hm] at hv
  refine .inr ⟨fun h=>by omega,?_⟩
  split at hv
  ·rw[qqz] at hv;exact hv
  ·exact hv
 ·subst hFC hFn hFc
  obtain⟨⟨A,hA⟩,hAl⟩:=hE.air
  refine qr2 W B F (by omega) sp _ h2 (fun h hi hj=>?_) i j hij h hi hj
  refine qae (qqw W B F hn (by rw[hC.h4];decide) hC.h5 (by have:=ok.tm;show 0≤F.tm∧F.tm<750000;have:0≤F.tm∧F.tm≤k:=this;omega) hE.lost A hA (fun m hm=>(ok.nd m hm).tick hk (by omega)) 0 1 (by decide) h hi hj) fun v ms hR=>?_
  obtain⟨L',B',hA',hB',rfl,rfl⟩:=hR
  refine⟨0,tickF F L' (tickZ F A F.n),B',⟨⟨rfl,rfl,rfl,?_,⟨by show(0:Int)≤1∧(1:Int)≤16777215;decide,?_,⟨⟨_,hA'⟩,?_⟩⟩⟩,hB'⟩,rfl,rfl⟩
  ·show Cr.mk F.P (fun _=>false) (F.tm+1) (tickZ F A F.n).1 F.on=_
   rw[qi9]
  ·exact qha _ _ _ _ _ _ _ hE.lost _
  ·show L'.length≤512
   rw[hA'.len]
   exact qnf _ _ _ _ _ _ _ (by show A.length≤512;rw[←hA.len];exact hAl) _
theorem qja (C:Nat→Int) (n:Nat) (hn:1≤n) (k:Nat) (c:Cr) (ok:CrOK C n k c) (sp:Sp) (e:Int) (he:e≠0∨sp.kd≠8) (hD:∀ (F:FS),F.C=C→F.n=n→F.cr=c→∀ (i:Nat) (h:Hp),h[i]?=some (some (flP F))→CallAll Tryz.prog 10 [.pointer (some ⟨i,0,some 0⟩),sp.v] h fun v ms=>v=.int .i64 e∧ms=[(i,flP F)]):∃ (e:Int) (c':Cr),CrOK C n (k+1) c'∧StepF n c c' sp e∧qey C n c sp e c':=by
 refine⟨e,c,ok.more (Nat.le_succ _),StepF.same n c sp e he,fun W B F hFC hFn hFc hE i j hij h hi hj=>?_⟩
 refine qfh i j hij hj (hD F hFC hFn hFc i h hi) fun v ms hR=>?_
 obtain⟨rfl,rfl⟩:=hR
 exact⟨e,F,⟨⟨rfl,hFC,hFn,hFc,hE⟩,fun _ h=>h⟩,rfl,rfl⟩
theorem qwb (C:Nat→Int) (n:Nat) (hC:CfOK C) (hn:1≤n∧n≤64) (k:Nat) (c:Cr) (ok:CrOK C n k c) (sp:Sp) (h1:sp.kd=1):∃ (e:Int) (c':Cr),CrOK C n (k+1) c'∧StepF n c c' sp e∧qey C n c sp e c':=by
 by_cases hx:0≤sp.nd∧sp.nd<(n:Int)
 ·obtain⟨m,hm⟩:∃ m:Nat,sp.nd=m:=⟨sp.nd.toNat,by omega⟩
  have hmn:m<n:=by omega
  rcases qzi C n 1 2 3 c.P c.M m sp.px sp.py sp.qx sp.qy hmn hC.h2 hC.h3 (by decide) (by decide) (by decide) (ok.P m hmn) with ⟨e,he,hW⟩|⟨hmv,hW⟩
  ·refine qja C n hn.1 k c ok sp e (.inl he) fun F hFC hFn hFc i h hi=>?_
   subst hFC hFn hFc
   exact qrw F (by omega) sp h1 m hmn hm e he (fun cap tm st o1 h=>hW cap tm st o1 h) i h hi
  ·have hto:=hmv.2.2.2.2.2
   cases ho:c.on m with
   | false=>
    refine⟨0,⟨movP c.P m (c.P (m*2)+sp.px) (c.P (m*2+1)+sp.py),movM c.M m,c.tm,c.s,c.on⟩,⟨fun q hq=>(ok.nd q hq).more (Nat.le_succ _),qv1 ok.P hto,by have:=ok.tm;show 0≤c.tm∧c.tm≤((k+1:Nat):Int);omega⟩,⟨fun h=>by omega,fun q hq hv=>.inr ⟨fun h=>by omega,hv⟩⟩,fun W B F hFC hFn hFc hE i j hij h hi hj=>?_⟩
    subst hFC hFn hFc
    refine qfh i j hij hj (qrx F (by omega) sp h1 m hmn hm ho (fun cap tm st o1 h=>hW cap tm st o1 h) i h hi) fun v ms hR=>?_
    obtain⟨rfl,rfl⟩:=hR
    refine⟨0,_,?_,rfl,rfl⟩
    exact⟨⟨rfl,rfl,rfl,rfl,⟨hE.st,hE.lost,hE.air⟩⟩,fun _ h=>h⟩
   | true=>
    have hnd:=ok.nd m hmn
    obtain⟨v,x,y,a,b,d,hv,hM⟩:=q3g (c.s m) sp.qx sp.qy hnd.may (by rw[hnd.C];have:=hC.h3;omega)
    refine⟨0,⟨movP c.P m (c.P (m*2)+sp.px) (c.P (m*2+1)+sp.py),movM c.M m,c.tm,upd c.s m {c.s m with fv:=v,fx:=x,fy:=y,fa:=a,fb:=b,fd:=d},c.on⟩,⟨fun q hq=>?_,qv1 ok.P hto,by have:=ok.tm;show 0≤c.tm∧c.tm≤((k+1:Nat):Int);omega⟩,⟨fun h=>by omega,fun q hq hq2=>.inr ⟨fun h=>by omega,?_⟩⟩,fun W B F hFC hFn hFc hE i j hij h hi hj=>?_⟩
    ·show NdK C (k+1) q (c.on q) (upd c.s m _ q)
     by_cases e:q=m
     ·subst e
      rw[qb7]
      exact⟨hnd.E,hnd.te,hnd.bn,hnd.bl,(hnd.more (Nat.le_succ _)).seq,(hnd.more (Nat.le_succ _)).boot,hnd.id,fun h=>(hv h).2,hnd.C⟩
     ·rw[qbz _ _ e];exact(ok.nd q hq).more (Nat.le_succ _)
    ·have hq2:(upd c.s m _ q).fv=true:=hq2
     by_cases e:q=m
     ·subst e
      rw[qb7] at hq2
      exact(hv hq2).1
     ·rw[qbz _ _ e] at hq2;exact hq2
    ·subst hFC hFn hFc
     refine qfh i j hij hj (qry F (by omega) sp h1 m hmn hm ho (fun cap tm st o1 h=>hW cap tm st o1 h) _ hM i h hi) fun v ms hR=>?_
     obtain⟨rfl,rfl⟩:=hR
     refine⟨0,_,?_,rfl,rfl⟩
     exact⟨⟨rfl,rfl,rfl,rfl,⟨hE.st,hE.lost,hE.air⟩⟩,fun _ h=>h⟩
 ·refine qja C n hn.1 k c ok sp 1 (.inl (by decide)) fun F hFC hFn hFc i h hi=>?_
  subst hFC hFn hFc
  exact qrz F (by omega) sp h1 hx i h hi
theorem qq0 (C:Nat→Int) (n:Nat) (hn:1≤n) (k:Nat) (c:Cr) (ok:CrOK C n k c) (sp:Sp) (hk:sp.kd<1∨9<sp.kd∨((sp.kd=8∨sp.kd=9)∧¬ (0≤sp.nd∧sp.nd<(n:Int)))):∃ (e:Int) (c':Cr),CrOK C n (k+1) c'∧StepF n c c' sp e∧qey C n c sp e c':=by
 refine qja C n hn k c ok sp 1 (.inl (by decide)) fun F hFC hFn hFc i h hi=>?_
 subst hFC hFn hFc
 rcases hk with hk|hk|⟨hk|hk,hx⟩
 ·exact qbn (q03 F (by omega) sp (.inl hk) i h hi)
 ·exact qbn (q03 F (by omega) sp (.inr hk) i h hi)
 ·exact qbn (qv7 F (by omega) sp hk hx i h hi)
 ·exact qbn (qv8 F (by omega) sp hk hx i h hi)
theorem qr3 (C:Nat→Int) (n:Nat) (hC:CfOK C) (hn:1≤n∧n≤64) (k:Nat) (hk:k<60000) (c:Cr) (ok:CrOK C n k c) (sp:Sp) (h9:sp.kd=9) (hx:0≤sp.nd∧sp.nd<(n:Int)):∃ (e:Int) (c':Cr),CrOK C n (k+1) c'∧StepF n c c' sp e∧qey C n c sp e c':=by
 obtain⟨m,hm⟩:∃ m:Nat,sp.nd=m:=⟨sp.nd.toNat,by omega⟩
 have hmn:m<n:=by omega
 have hnd:=ok.nd m hmn
 cases ho:c.on m with
 | false=>
  refine⟨10,c,ok.more (Nat.le_succ _),StepF.same n c sp 10 (.inl (by decide)),fun W B F hFC hFn hFc hE i j hij h hi hj=>?_⟩
  subst hFC hFn hFc
  refine qj4 W B F (by omega) sp _ h9 hx (fun h hi hj=>?_) i j hij h hi hj
  refine qae (qv2 W B F (by omega) hE.air sp h9 m hmn hm ho 0 1 (by decide) h hi hj) fun v ms hR=>?_
  obtain⟨_,_,rfl,rfl⟩:=hR
  exact⟨10,F,B,⟨⟨rfl,rfl,rfl,rfl,hE⟩,fun _ h=>h⟩,rfl,rfl⟩
 | true=>
  refine⟨0,⟨c.P,c.M,c.tm,upd c.s m {c.s m with bl:=(c.s m).bl-1,seq:=(c.s m).seq+1},upd c.on m false⟩,⟨fun q hq=>?_,ok.P,by have:=ok.tm;show 0≤c.tm∧c.tm≤((k+1:Nat):Int);omega⟩,⟨fun h=>by omega,fun q hq hq2=>.inr ⟨fun h=>by omega,?_⟩⟩,fun W B F hFC hFn hFc hE i j hij h hi hj=>?_⟩
  ·show NdK C (k+1) q (upd c.on m false q) (upd c.s m _ q)
   by_cases e:q=m
   ·subst e
    rw[qb7,qb7]
    obtain⟨a1,a2,a3,a4,a5,a6,a7,a8,a9⟩:=hnd
    exact⟨a1,a2,a3,(fun h=>by cases h),by show 0≤(c.s q).seq+1∧(c.s q).seq+1≤((k+1:Nat):Int);omega,by show 0≤(c.s q).boot∧(c.s q).boot≤((k+1:Nat):Int);omega,a7,a8,a9⟩
   ·rw[qbz _ _ e,qbz _ _ e];exact(ok.nd q hq).more (Nat.le_succ _)
  ·have hq2:(upd c.s m _ q).fv=true:=hq2
   by_cases e:q=m
   ·subst e
    rw[qb7] at hq2
    exact hq2
   ·rw[qbz _ _ e] at hq2;exact hq2
  ·subst hFC hFn hFc
   have hbl:=hnd.bl ho
   have hsq:=hnd.seq
   have hbo:=hnd.boot
   have hid:=hnd.id
   have htm:=ok.tm
   have htm:0≤F.tm∧F.tm≤k:=htm
   refine qj4 W B F (by omega) sp _ h9 hx (fun h hi hj=>?_) i j hij h hi hj
   refine qae (qv3 W B F (by omega) hE.air sp h9 m hmn hm (by omega) (by rw[hC.h4];decide) hC.h5 (by omega) hE.st hE.lost ho hbl ⟨hsq.1,by have:(F.s m).seq≤k:=hsq.2;omega⟩ ⟨hbo.1,by have:(F.s m).boot≤k:=hbo.2;omega⟩ (by have:(F.s m).id=m:=hid;omega) 0 1 (by decide) h hi hj) fun v ms hR=>?_
   obtain⟨κ,hκ,rfl,rfl⟩:=hR
   refine⟨0,_,κ.2.1,?_,rfl,rfl⟩
   exact⟨⟨rfl,rfl,rfl,rfl,⟨by show 0≤min (F.st+1) 16777215∧min (F.st+1) 16777215≤16777215;have:=hE.st;omega,hκ.1.2,hκ.1.1⟩⟩,hκ.2⟩
theorem qjb (C:Nat→Int) (hC:CfOK C) (h9:2≤C 9) (k m:Nat) (boot:Int) (hb:0≤boot∧boot≤k) (v:Bool) (x y a b d:Int) (hv:v=true→mayP x y a b d):NdK C k m true (nsNew C (m:Int) boot v x y a b d):=by
 have q8:=hC.h8
 have q9:=hC.h9
 refine⟨rfl,?_,?_,fun _=>?_,?_,hb,rfl,hv,rfl⟩
 ·show 0≤max 1 (min (C 8) 1000000)∧max 1 (min (C 8) 1000000)≤1000000;omega
 ·show 2≤max 0 (min (C 9) 1000)∧max 0 (min (C 9) 1000)<1000;omega
 ·show 0<max 0 (min (C 9) 1000)∧max 0 (min (C 9) 1000)<1000;omega
 ·show 0≤(0:Int)∧(0:Int)≤k;omega
theorem qwc (C:Nat→Int) (n:Nat) (hC:CfOK C) (h9:2≤C 9) (hn:1≤n∧n≤64) (k:Nat) (hk:k<60000) (c:Cr) (ok:CrOK C n k c) (sp:Sp) (h8:sp.kd=8) (hx:0≤sp.nd∧sp.nd<(n:Int)):∃ (e:Int) (c':Cr),CrOK C n (k+1) c'∧StepF n c c' sp e∧qey C n c sp e c':=by
 obtain⟨m,hm⟩:∃ m:Nat,sp.nd=m:=⟨sp.nd.toNat,by omega⟩
 have hmn:m<n:=by omega
 have hnd:=ok.nd m hmn
 have hb:=hnd.boot
 have go:∀ (a:NSt),NdK C (k+1) m true a→(a.fv=true→¬ sp.z)→(∀ (K:Nat) (h:Hp),h[K]?=some none→qad Tryz.prog 24 [cfV C,.int .i64 (m:Int),.int .i64 ((c.s m).boot+1),elV sp.ex sp.ey sp.ea sp.eb sp.ed] h (.pointer (some ⟨K,0,some 0⟩)) [(K,ndP a)] [])→(sp.z∨¬ sp.z∧inP sp.ex sp.ey sp.ea sp.eb sp.ed (c.P (m*2)) (c.P (m*2+1)))→∃ (e:Int) (c':Cr),CrOK C n (k+1) c'∧StepF n c c' sp e∧qey C n c sp e c':=fun a ha hz hN hin=>by
  refine⟨0,⟨c.P,c.M,c.tm,upd c.s m a,upd c.on m true⟩,⟨fun q hq=>?_,ok.P,by have:=ok.tm;show 0≤c.tm∧c.tm≤((k+1:Nat):Int);omega⟩,⟨fun _ _=>hx,fun q hq hq2=>?_⟩,fun W B F hFC hFn hFc hE i j hij h hi hj=>?_⟩
  ·show NdK C (k+1) q (upd c.on m true q) (upd c.s m a q)
   by_cases e:q=m
   ·subst e;rw[qb7,qb7];exact ha
   ·rw[qbz _ _ e,qbz _ _ e];exact(ok.nd q hq).more (Nat.le_succ _)
  ·have hq2:(upd c.s m a q).fv=true:=hq2
   by_cases e:q=m
   ·subst e;rw[qb7] at hq2;exact .inl ⟨h8,rfl,hm,hz hq2⟩
   ·rw[qbz _ _ e] at hq2;exact .inr ⟨fun h=>e (by have:=h.2.2;omega),hq2⟩
  ·subst hFC hFn hFc
   refine qj3 W B F (by omega) sp _ h8 hx (fun h hi hj=>?_) i j hij h hi hj
   refine qi8 W B F (by omega) sp _ h8 (fun h hi hj=>?_) 0 1 (by decide) h hi hj
   rw[hm]
   rcases hin with hz|⟨hz,hin⟩
   ·refine qfh 0 1 (by decide) hj (qzs F (by omega) m hmn sp.ex sp.ey sp.ea sp.eb sp.ed hz a ⟨hb.1,by have:(F.s m).boot≤k:=hb.2;omega⟩ hN 0 h hi) fun v ms hR=>?_
    obtain⟨κ,rfl,rfl⟩:=hR
    refine⟨0,_,?_,rfl,rfl⟩
    exact⟨⟨rfl,rfl,rfl,rfl,⟨hE.st,hE.lost,hE.air⟩⟩,fun _ h=>h⟩
   ·refine qfh 0 1 (by decide) hj (qzt F (by omega) m hmn sp.ex sp.ey sp.ea sp.eb sp.ed hz hin a ⟨hb.1,by have:(F.s m).boot≤k:=hb.2;omega⟩ hN 0 h hi) fun v ms hR=>?_
    obtain⟨κ,rfl,rfl⟩:=hR
    refine⟨0,_,?_,rfl,rfl⟩
    exact⟨⟨rfl,rfl,rfl,rfl,⟨hE.st,hE.lost,hE.air⟩⟩,fun _ h=>h⟩
 have hso:serOK ((c.s m).boot+1):=⟨by omega,by omega⟩
 have hbk:0≤(c.s m).boot+1∧(c.s m).boot+1≤((k+1:Nat):Int):=by omega
 have nf:∀ {p:Prop},false=true→p:=fun h=>by cases h
 by_cases hz:sp.z
 ·have hz2:=hz
  obtain⟨z1,z2,z3,z4,z5⟩:=hz2
  refine go _ (qjb C hC h9 (k+1) m _ hbk false 0 0 0 0 0 nf) nf (fun K h hK=>?_) (.inl hz)
  rw[z1,z2,z3,z4,z5]
  exact qu3 C hC m _ (by omega) hso K h hK
 ·by_cases hin:inP sp.ex sp.ey sp.ea sp.eb sp.ed (c.P (m*2)) (c.P (m*2+1))
  ·have hmay:mayP sp.ex sp.ey sp.ea sp.eb sp.ed:=hin.1
   by_cases ho:max 2 (C 10)<sp.ea+sp.ed
   ·exact go _ (qjb C hC h9 (k+1) m _ hbk false 0 0 0 0 0 nf) nf (fun K h hK=>q2l C hC m _ (by omega) hso _ _ _ _ _ hmay ho K h hK) (.inr ⟨hz,hin⟩)
   ·exact go _ (qjb C hC h9 (k+1) m _ hbk true _ _ _ _ _ fun _=>hmay) (fun _=>hz) (fun K h hK=>qu4 C hC m _ (by omega) hso _ _ _ _ _ hmay ho K h hK) (.inr ⟨hz,hin⟩)
  ·refine⟨1,c,ok.more (Nat.le_succ _),StepF.same n c sp 1 (.inl (by decide)),fun W B F hFC hFn hFc hE i j hij h hi hj=>?_⟩
   subst hFC hFn hFc
   refine qj3 W B F (by omega) sp _ h8 hx (fun h hi hj=>?_) i j hij h hi hj
   refine qi8 W B F (by omega) sp _ h8 (fun h hi hj=>?_) 0 1 (by decide) h hi hj
   rw[hm]
   refine qfh 0 1 (by decide) hj (qzr F (by omega) m hmn sp.ex sp.ey sp.ea sp.eb sp.ed hz hin 0 h hi) fun v ms hR=>?_
   obtain⟨κ,rfl,rfl⟩:=hR
   exact⟨1,F,⟨⟨rfl,rfl,rfl,rfl,hE⟩,fun _ h=>h⟩,rfl,rfl⟩
theorem q3k (C:Nat→Int) (n:Nat) (hC:CfOK C) (h9:2≤C 9) (hn:1≤n∧n≤64) (k:Nat) (hk:k<60000) (c:Cr) (ok:CrOK C n k c) (sp:Sp) (hkd:sp.kd≤2∨8≤sp.kd):∃ (e:Int) (c':Cr),CrOK C n (k+1) c'∧StepF n c c' sp e∧qey C n c sp e c':=by
 by_cases h1:sp.kd=1
 ·exact qwb C n hC hn k c ok sp h1
 by_cases h2:sp.kd=2
 ·exact qwa C n hC hn k hk c ok sp h2
 by_cases h8:sp.kd=8∨sp.kd=9
 ·by_cases hx:0≤sp.nd∧sp.nd<(n:Int)
  ·rcases h8 with h8|h8
   ·exact qwc C n hC h9 hn k hk c ok sp h8 hx
   ·exact qr3 C n hC hn k hk c ok sp h8 hx
  ·exact qq0 C n hn.1 k c ok sp (.inr (.inr ⟨h8,hx⟩))
 ·exact qq0 C n hn.1 k c ok sp (by omega)
theorem q3l (C:Nat→Int) (n:Nat) (hn:1≤n) (c:Cr) (sp:Sp) (hkd:sp.kd=4∨sp.kd=5∨sp.kd=6) (W:World) (B:List By) (F:FS) (hFC:F.C=C) (hFn:F.n=n) (hFc:F.cr=c) (hE:FlE W B F) (i j:Nat) (hij:i≠j) (h:Hp) (hi:h[i]?=some (some (flP F))) (hj:h[j]?=some (some (memC W B))):CallAll Tryz.prog 10 [.pointer (some ⟨i,0,some 0⟩),sp.v] h (StR W (fun _ F' B'=>F'.C=C∧F'.n=n∧F'.cr=c∧FlE W B' F') i j):=by
 subst hFC hFn hFc
 have key:∀ h:Hp,h[0]?=some (some (flP F))→h[1]?=some (some (memC W B))→CallAll Tryz.prog 29 [.pointer (some ⟨0,0,some 0⟩),sp.v] h (StR W (fun _ F' B'=>F'.C=F.C∧F'.n=F.n∧F'.cr=F.cr∧FlE W B' F') 0 1):=fun h hi hj=>by
  refine qae (q3j W B F (by omega) hE.air sp hkd 0 1 (by decide) h hi hj) fun v ms hR=>?_
  obtain⟨e,L',B',hA,rfl,rfl⟩:=hR
  refine⟨e,_,B',?_,rfl,rfl⟩
  exact⟨rfl,rfl,rfl,⟨hE.st,hE.lost,hA⟩⟩
 rcases hkd with hk|hk|hk
 ·exact qov W B F (by omega) sp _ hk key i j hij h hi hj
 ·exact qow W B F (by omega) sp _ hk key i j hij h hi hj
 ·exact qox W B F (by omega) sp _ hk key i j hij h hi hj
open Go Go.RowKit Sx
theorem qgp {P:Program} {g:FuncId} {vs:List Value} {h:Hp} {v:Value} {ms:List (Nat×Chunk)} {rh:List Nat} (hc:∀ h₂:Hp,(∀ i∈rh,h₂[i]?=h[i]?)→(∀ m∈ms,h₂[m.1]?=h[m.1]?)→CallAll P g vs h₂ fun v' ms'=>v'=v∧ms'=ms):qad P g vs h v ms rh:=fun h₂ h1 h2 X ρ w xs H hx=>by
 rcases hc h₂ h1 h2 X ρ w xs H hx with ⟨x,w',hr,v',ms',ρ',⟨rfl,rfl⟩,h3⟩|⟨hr,hcl⟩
 ·exact .inl ⟨x,w',hr,ρ',h3⟩
 ·refine .inr ⟨hr,hcl.mono ?_⟩
  rintro e w' ⟨x,he,v',ms',ρ',⟨rfl,rfl⟩,h3⟩
  exact⟨x,he,ρ',h3⟩
theorem q3m (F:FS) (hn:0<F.n) (i:Nat) (h:Hp) (hi:h[i]?=some (some (flP F))):qad Tryz.prog 13 [.pointer (some ⟨i,0,some 0⟩)] h (.int .i64 (F.L.length:Nat)) [(i,flP F)] []:=
 qgp fun h₂ _ h2=>q5x F hn i h₂ ((h2 _ (List.mem_singleton.2 rfl)).trans hi)
theorem qzw (F:FS) (hn:0<F.n) (i:Nat) (h:Hp) (hi:h[i]?=some (some (flP F))):qad Tryz.prog 15 [.pointer (some ⟨i,0,some 0⟩)] h (.int .i64 F.tm) [(i,flP F)] []:=
 qgp fun h₂ _ h2=>q3a F hn i h₂ ((h2 _ (List.mem_singleton.2 rfl)).trans hi)
theorem qek (F:FS) (m:Nat) (hm:m<F.n) (i:Nat) (h:Hp) (hi:h[i]?=some (some (flP F))):qad Tryz.prog 11 [.pointer (some ⟨i,0,some 0⟩),.int .i64 (m:Int)] h (realP (F.g m)) [(i,flP F)] []:=
 qgp fun h₂ _ h2=>qvt F m hm i h₂ ((h2 _ (List.mem_singleton.2 rfl)).trans hi)
theorem qcm (F:FS) (m:Nat) (hm:m<F.n) (hE:(F.s m).T.E=[]) (i k:Nat) (h:Hp) (hi:h[i]?=some (some (flP F))) (hk:h[k]?=some none):qad Tryz.prog 12 [realP (F.g m)] h (rpV (F.s m).fv (F.s m).fx (F.s m).fy (F.s m).fa (F.s m).fb (F.s m).fd (.slice none 0 0)) [(i,flP F)] [k]:=
 qgp fun h₂ h1 h2=>qvu F m hm hE i k h₂ ((h2 _ (List.mem_singleton.2 rfl)).trans hi) ((h1 k (List.mem_singleton.2 rfl)).trans hk)
theorem qoy {P:Program} {g:FuncId} {vs vs':List Value} {h:Hp} {R:Value→List (Nat×Chunk)→Prop} (hv:All2 (fun v v'=>∀ r,den r v=den r v') vs vs') (hc:CallAll P g vs' h R):CallAll P g vs h R:=fun X ρ w xs H hx=>by
 refine hc X ρ w xs H ?_
 have key:∀ (vs vs' xs:List Value),All2 (fun v v'=>∀ r,den r v=den r v') vs vs'→All2 (Den (Fil h) ρ) vs xs→All2 (Den (Fil h) ρ) vs' xs:=by
  intro vs
  induction vs with
  | nil=>
   intro vs' xs hv hx
   cases vs' with
   | nil=>exact hx
   | cons _ _=>exact hv.elim
  | cons v vs ih=>
   intro vs' xs hv hx
   cases vs' with
   | nil=>exact hv.elim
   | cons v' vs'=>
    cases xs with
    | nil=>exact hx.elim
    | cons x xs=>exact⟨fun r hr=>(hv.1 r).symm.trans (hx.1 r hr),ih _ _ hv.2 hx.2⟩
 exact key _ _ _ hv hx
theorem qwd (k nd n px py qx qy ex ey ea eb ed x b:Int) (r:Nat→Nat×Nat):den r (stepV k nd n px py qx qy ex ey ea eb ed x b (.slice none 0 0))=den r (⟨k,nd,n,px,py,qx,qy,ex,ey,ea,eb,ed,x,b,none⟩:Sp).v:=by
 rw[Sp.den]
 show Value.agg ((⟨[.int .i64 k,.int .i64 nd,.int .i64 n,.int .i64 px,.int .i64 py,.int .i64 qx,.int .i64 qy,.int .i64 ex,.int .i64 ey,.int .i64 ea,.int .i64 eb,.int .i64 ed,.int .i64 x,.int .u8 b,.slice none 0 0]⟩:Array Value).map (den1 r))=_
 simp only[List.map_toArray,List.map_cons,List.map_nil]
 rfl
theorem qoz {h:Hp} {R:Value→List (Nat×Chunk)→Prop} {p:Value} (k nd n px py qx qy ex ey ea eb ed x b:Int) (hc:CallAll Tryz.prog 10 [p,(⟨k,nd,n,px,py,qx,qy,ex,ey,ea,eb,ed,x,b,none⟩:Sp).v] h R):CallAll Tryz.prog 10 [p,stepV k nd n px py qx qy ex ey ea eb ed x b (.slice none 0 0)] h R:=
 qoy (vs':=[p,(⟨k,nd,n,px,py,qx,qy,ex,ey,ea,eb,ed,x,b,none⟩:Sp).v]) ⟨fun r=>rfl,fun r=>qwd _ _ _ _ _ _ _ _ _ _ _ _ _ _ r,trivial⟩ hc
abbrev awF (g:Nat→Nat×Nat):FS:=⟨(cf6 4 4 5 1 4 5),5,pos0,fun _=>false,0,0,[],g,nodeS (cf6 4 4 5 1 4 5),fun _=>true,0⟩
theorem qwe {C:Nat→Int} (h:CfOK C):mayC C:=by
 obtain⟨h0,h1,h2,h3,h4,h5,h6,h7,h8,h9,h10⟩:=h
 unfold mayC
 rw[h4,h6]
 omega
theorem qj5 (i:Nat) (on:Nat→Bool) (mk:Nat→Am) (s:List Am×Int) (a:Am) (h:s.1[0]?=some a):∀ j,(sendA i on mk s j).1[0]?=some a
 | 0=>h
 | j+1=>by
  have ih:=qj5 i on mk s a h j
  unfold sendA
  split
  ·exact ih
  ·unfold putA
   split
   ·show((sendA i on mk s j).1++[mk j])[0]?=some a
    rw[List.getElem?_append_left (List.getElem?_eq_some_iff.1 ih).1];exact ih
   ·exact ih
theorem qj6 (i:Nat) (on:Nat→Bool) (mk:Nat→Am) (s:List Am×Int) (n:Nat) (hon:∀ j,j<n→on j=true) (hl:s.1.length+n≤512):∀ j,j≤n→(sendA i on mk s j).1.length=s.1.length+(j-if i<j then 1 else 0)
 | 0,_=>by simp[sendA]
 | j+1,h=>by
  have ih:=qj6 i on mk s n hon hl j (by omega)
  unfold sendA
  by_cases e:j=i
  ·rw[if_pos (.inl e),ih,if_neg (by omega),if_pos (by omega)]
   omega
  ·rw[if_neg (fun h=>h.elim e fun h2=>by rw[hon j (by omega)] at h2;cases h2)]
   unfold putA
   rw[if_pos (by rw[ih];split<;>omega)]
   show((sendA i on mk s j).1++[mk j]).length=_
   rw[List.length_append,ih]
   show s.1.length+(j-if i<j then 1 else 0)+1=s.1.length+(j+1-if i<j+1 then 1 else 0)
   by_cases h3:i<j
   ·rw[if_pos h3,if_pos (by omega)];omega
   ·rw[if_neg h3,if_neg (by omega)];omega
theorem qj7 (C P:Nat→Int) (n:Nat) (on:Nat→Bool) (now:Nat→Int) (g:Int) (s:Nat→NSt) (lost:Int) (hon:∀ j,j<n→on j=true) (hdue:∀ j,j<n→¬ now j<(s j).tx) (hn:n≤16):∀ j,j≤n→(tickA C P n on now g (s,([],lost)) j).2.1.length=j*(n-1)
 | 0,_=>by simp[tickA]
 | j+1,h=>by
  have ih:=qj7 C P n on now g s lost hon hdue hn j (by omega)
  unfold tickA
  rw[if_pos (hon j (by omega))]
  show(tellA _ _ _ _ _ _).1.length=_
  have hs:(tickA C P n on now g (s,([],lost)) j).1 j=s j:=qgo _ _ _ _ _ _ _ j j (nlr _)
  rw[hs]
  unfold tickB
  rw[if_neg (hdue j (by omega))]
  show(sendA _ _ _ _ _).1.length=_
  have hb:j*(n-1)≤15*15:=Nat.mul_le_mul (by omega) (by omega)
  rw[qj6 _ _ _ _ n hon (by rw[ih];omega) n (nlr _),ih,if_pos (by omega),Nat.succ_mul]
theorem qwf (C P:Nat→Int) (n:Nat) (on:Nat→Bool) (now:Nat→Int) (g:Int) (s:Nat→NSt) (lost:Int) (hon:∀ j,j<n→on j=true) (hdue:∀ j,j<n→¬ now j<(s j).tx) (hn:2≤n):∃ bs,∀ j,1≤j→j≤n→(tickA C P n on now g (s,([],lost)) j).2.1[0]?=some (mkA C P bs 0 g 1):=by
 refine⟨(tickB (s 0) (now 0)).getD [],fun j=>?_⟩
 induction j with
 | zero=>intro h;omega
 | succ j ih=>
  intro _ hj
  unfold tickA
  rw[if_pos (hon j (by omega))]
  show(tellA _ _ _ _ _ _).1[0]?=_
  have hs:(tickA C P n on now g (s,([],lost)) j).1 j=s j:=qgo _ _ _ _ _ _ _ j j (nlr _)
  rw[hs]
  by_cases h0:j=0
  ·subst h0
   have e:tickB (s 0) (now 0)=some ((tickB (s 0) (now 0)).getD []):=by
    unfold tickB
    rw[if_neg (hdue 0 (by omega))];rfl
   generalize hbs:(tickB (s 0) (now 0)).getD []=bs at e ⊢
   rw[e]
   show(sendA 0 on (mkA C P bs 0 g) ([],lost) n).1[0]?=_
   have key:∀ m,2≤m→(sendA 0 on (mkA C P bs 0 g) ([],lost) m).1[0]?=some (mkA C P bs 0 g 1):=by
    intro m
    induction m with
    | zero=>intro h;omega
    | succ m ihm=>
     intro hm2
     by_cases e1:m=1
     ·subst e1
      have h1:=hon 1 (by omega)
      simp[sendA,putA,h1]
     ·have ih2:=ihm (by omega)
      unfold sendA
      split
      ·exact ih2
      ·unfold putA
       split
       ·show((sendA 0 on (mkA C P bs 0 g) ([],lost) m).1++[_])[0]?=_
        rw[List.getElem?_append_left (List.getElem?_eq_some_iff.1 ih2).1];exact ih2
       ·exact ih2
   exact key n hn
  ·have ih2:=ih (by omega) (by omega)
   unfold tellA
   split
   ·exact ih2
   ·exact qj5 _ _ _ _ _ ih2 _
theorem q3n (g:Nat→Nat×Nat) (i j:Nat) (hij:i≠j) (h:Hp) {d:Chunk} (hd:d.own=true) (hi:h[i]?=some (some (flP (awF g)))) (hj:h[j]?=some (some d)):CallAll Tryz.prog 10 [.pointer (some ⟨i,0,some 0⟩),stepV 2 0 0 0 0 0 0 0 0 0 0 0 0 0 (.slice none 0 0)] h fun v ms=>∃ L' B',AirA noW B' L' (tickZ (awF g) [] 5).2.1∧v=.int .i64 0∧ms=[(i,flP (tickF (awF g) L' (tickZ (awF g) [] 5))),(j,memC noW B')]:=by
 have hjl:=(List.getElem?_eq_some_iff.1 hj).1
 refine qru j hj hd (qae (qvx noW [] (awF g) (show 1≤5∧5≤64 by decide) (show 0≤(cf6 4 4 5 1 4 5) 4∧(cf6 4 4 5 1 4 5) 4≤100 by decide) (show 0≤(cf6 4 4 5 1 4 5) 5∧(cf6 4 4 5 1 4 5) 5≤1000 by decide) (show(0:Int)≤0∧(0:Int)<750000 by decide) (show(0:Int)≤0∧(0:Int)≤1000000 by decide) [] .nil (fun m hm=>?_) i j hij _ (by rw[List.getElem?_set_ne (Ne.symm hij)];exact hi) (List.getElem?_set_self hjl)) fun v ms hR=>?_) fun v ms hR=>?_
 ·have hm:m<5:=hm
  have hk:=qjb (cf6 4 4 5 1 4 5) (qnc 4 4 5 1 4 5) (by decide) 0 m 0 (by decide)
  have:NdK (cf6 4 4 5 1 4 5) 0 m true (nodeS (cf6 4 4 5 1 4 5) m):=by
   unfold nodeS
   split
   ·exact hk true _ _ _ _ _ fun _=>⟨qnb m (by omega),by decide,by decide,by decide,by decide⟩
   ·exact hk false 0 0 0 0 0 fun h=>by cases h
  exact this.tick (by decide) (by omega)
 ·obtain⟨L',B',h1,h2,rfl,rfl⟩:=hR
  exact⟨L',B',h1,rfl,rfl⟩
 ·obtain⟨L',B',h1,rfl,rfl⟩:=hR
  show List.set (List.set _ _ _) _ _=List.set (List.set _ _ _) _ _
  rw[List.set_comm _ _ hij.symm,List.set_set]
theorem q04 {g:Nat→Nat×Nat}:∀ j,j<5→¬ nowA (awF g) j<((awF g).s j).tx:=fun j hj=>by
 have:((awF g).s j).tx=0:=by
  show(nodeS (cf6 4 4 5 1 4 5) j).tx=0
  unfold nodeS
  split<;>rfl
 rw[this]
 show ¬ locN _ _<0
 unfold locN
 omega
theorem q51 (g:Nat→Nat×Nat):(tickZ (awF g) [] 5).2.1.length=20:=
 qj7 _ _ 5 _ _ _ _ _ (fun _ _=>rfl) (fun j hj=>q04 (g:=g) j hj) (by decide) 5 (by decide)
theorem q52 (g:Nat→Nat×Nat):∃ a,(tickZ (awF g) [] 5).2.1[0]?=some a∧1*16777216+min (1+1) 16777215<a.tr:=by
 obtain⟨bs,hbs⟩:=qwf (awF g).C (awF g).P 5 (awF g).on (nowA (awF g)) ((0+1)*16777216+min (0+1) 16777215) (awF g).s 0 (fun _ _=>rfl) (fun j hj=>q04 (g:=g) j hj) (by decide)
 refine⟨_,hbs 5 (by decide) (by decide),?_⟩
 have p0:pos0 (0*2)=0:=by decide
 have p1:pos0 (0*2+1)=0:=by decide
 have p2:pos0 (1*2)=1000:=by decide
 have p3:pos0 (1*2+1)=0:=by decide
 unfold mkA
 dsimp only
 unfold trA
 rw[p0,p1,p2,p3]
 have e:distN 0 0 1000 0=1000:=by
  unfold distN
  rw[if_pos (by decide)]
  have q:((0-1000)*(0-1000)+(0-0)*(0-0):Int).toNat=1000*1000:=by decide
  rw[q,q4i (v:=1000*1000) (r:=1000) (by decide) (by decide)]
  rfl
 rw[e,i64s _ (by omega) (by omega)]
 omega
abbrev awG (g:Nat→Nat×Nat) (L:List Ml):FS:={tickF (awF g) L (tickZ (awF g) [] 5) with st:=2}
theorem aw_s0 (g:Nat→Nat×Nat) (L:List Ml):(awG g L).s 0=tickS (nodeS (cf6 4 4 5 1 4 5) 0) (nowA (awF g) 0):=by
 show(tickZ (awF g) [] 5).1 0=_
 rw[qi9,qhy _ _ _ _ _ (by decide)]
 rfl
theorem aw_E (g:Nat→Nat×Nat) (L:List Ml):((awG g L).s 0).T.E=[]:=by
 rw[aw_s0]
 unfold tickS
 split<;>rfl
theorem aw_fv (g:Nat→Nat×Nat) (L:List Ml):((awG g L).s 0).fv=true:=by
 rw[aw_s0,qqz]
 rfl
theorem q53 (g:Nat→Nat×Nat) (L:List Ml) (B:List By) (hL:AirA noW B L (tickZ (awF g) [] 5).2.1) (i j:Nat) (hij:i≠j) (h:Hp) (hi:h[i]?=some (some (flP (tickF (awF g) L (tickZ (awF g) [] 5))))) (hj:h[j]?=some (some (memC noW B))):CallAll Tryz.prog 10 [.pointer (some ⟨i,0,some 0⟩),stepV 3 0 0 0 0 0 0 0 0 0 0 0 0 0 (.slice none 0 0)] h fun v ms=>∃ B',v=.int .i64 10∧ms=[(i,flP {tickF (awF g) L (tickZ (awF g) [] 5) with st:=2}),(j,memC noW B')]:=by
 obtain⟨a,ha,hg⟩:=q52 g
 refine qoz 3 0 0 0 0 0 0 0 0 0 0 0 0 0 (qae (qv9 noW B (tickF (awF g) L (tickZ (awF g) [] 5)) (show 0<5 by decide) ⟨3,0,0,0,0,0,0,0,0,0,0,0,0,0,none⟩ (fun e F' B'=>e=10∧F'={tickF (awF g) L (tickZ (awF g) [] 5) with st:=2}) rfl (fun h hi hj=>qae (qos noW B (tickF (awF g) L (tickZ (awF g) [] 5)) (show 1≤5∧5≤64 by decide) (show(0:Int)≤0+1∧(0:Int)+1≤1000000 by decide) (show(0:Int)≤1∧(1:Int)≤16777215 by decide) _ hL 0 a ha hg 0 1 (by decide) h hi hj) fun v ms hR=>?_) i j hij h hi hj) fun v ms hR=>?_)
 ·obtain⟨B',_,rfl,rfl⟩:=hR
  exact⟨10,_,B',⟨rfl,rfl⟩,rfl,rfl⟩
 ·obtain⟨e,F',B',⟨rfl,rfl⟩,rfl,rfl⟩:=hR
  exact⟨B',rfl,rfl⟩
theorem qwg (w:World):Calls Tryz.prog 7 #[] w fun e w'=>e=.returned (.bool true)∧Below w.heap.size w w':=by
 refine qaf (G:=tys) w tysOK mixed Tryz.func7 (by rfl) (by rfl) (by rfl) ?_
 repeat' (refine N.go ?_;first|refine N.call (qor 4 4 5 1 4 5 _) ?_|fail)
 refine N.go ?_
 refine N.callAll (qvn (cf6 4 4 5 1 4 5) (qnc 4 4 5 1 4 5) (qwe (qnc 4 4 5 1 4 5)) 5 (by decide) (by decide) (by decide) 4 5 (by decide) _ (by rfl) (by rfl)) fun v ms hR=>?_
 obtain⟨g,rfl,rfl⟩:=hR
 repeat' (refine N.go ?_;first|with_reducible refine N.forkF ?_|refine N.forkNo (by decide) ?_|fail)
 refine N.go ?_
 refine N.callAll (q3n g 4 5 (by decide) _ (d:=garC (cf6 4 4 5 1 4 5)) rfl (by rfl) (by rfl)) fun v ms hR=>?_
 obtain⟨L,B,hL,rfl,rfl⟩:=hR
 skip
 refine N.go ?_
 refine N.callAll (q53 g L B hL 4 5 (by decide) _ (by rfl) (by rfl)) fun v ms hR=>?_
 obtain⟨B',rfl,rfl⟩:=hR
 repeat' (refine N.go ?_;first|with_reducible (first|refine N.eq ?_|refine N.obl rfl ?_|refine N.forkT ?_)|refine N.forkYes (by decide) ?_|refine N.call (qek (awG g L) 0 (show 0<5 by decide) 4 _ (by rfl)) ?_|refine N.call (qcm (awG g L) 0 (show 0<5 by decide) (aw_E g L) 4 6 _ (by rfl) (by rfl)) ?_|refine N.call (q3m (awG g L) (show 0<5 by decide) 4 _ (by rfl)) ?_|refine N.call (qzw (awG g L) (show 0<5 by decide) 4 _ (by rfl)) ?_|refine N.forkYes (kY (by show((L.length:Nat):Int)=20;rw[hL.len,q51];rfl)) ?_|refine N.forkYes (aw_fv g L) ?_|fail)
 all_goals rfl
theorem qlh (h:Hp):qad Tryz.prog 7 [] h (.bool true) [] []:=qai rfl rfl (Tryz.call7 _) qwg
def qjc (C:Nat→Sp) (n:Nat):Prop:=n≤150∧∀ i,i<n→uN (C i).u≤1100
instance (C:Nat→Sp) (n:Nat):Decidable (qjc C n):=by unfold qjc;infer_instance
def Steps (W:World) (b0 o0 n:Nat) (C:Nat→Sp) (Bs:Nat→List Int):Prop:=∀ i,i<n→Src W [] (C i).u (Bs i)∧∀ j v,(C i).rs[j]?=some v→W.cell? ⟨b0,o0+i*15+j,none⟩=some v
theorem q05 (W:World) (F:List By) (b0 o0 n cap:Nat) (C:Nat→Sp) (Bs:Nat→List Int) (hC:Steps W b0 o0 n C Bs) (hnn:n≤9223372036854775807) (j:Nat) (h:Hp) (hj:h[j]?=some (some (memC W F))) :
  qad Tryz.prog 6 [.slice (some ⟨b0,o0,none⟩) n cap] h (.bool (decide (qjc C n))) [(j,memC W F)] []:=by
 refine qax (G:=tys) (fun _:Unit=>True) (fun _=>_) [⟨j,memC W F,memC W F,memC W F⟩] [] [.slice (some ⟨b0,o0,none⟩) n cap] tysOK mixed Tryz.func6 (by rfl) (Tryz.call6) ⟨hj,trivial⟩ ⟨⟨fun h=>⟨rfl,nlr _⟩,nlr _,nzj⟩,trivial⟩ (by simp[Apart]) ⟨.inr ⟨rfl,rfl⟩,trivial⟩ trivial ⟨.plain rfl,trivial⟩ Opens.same ?_
 rintro⟨⟩ -
 skip
 refine N.go ?_
 refine N.loopR (α:=Nat) (fun q=>q≤n∧q≤150∧∀ i,i<q→uN (C i).u≤1100) (fun q=>n-q) (fun q=>[(7,.int .i64 (q:Int))]) (fun q=>[]) 0 [(0,0)] ⟨Nat.zero_le _,Nat.zero_le _,fun i hi=>absurd hi (Nat.not_lt_zero i)⟩ ?_ ?_
 ·repeat' (refine N.go ?_;first|exact N.true|refine N.obl (@ChunkReLe.mk _ _ _ ⟨.inr rfl⟩ id (nlr _) (nzj)) ?_|refine N.obl (.plain (by rfl)) ?_|fail)
 rintro q ⟨hq1,hq2,hq3⟩
 have hend:∀ (b:Bool),b=decide (qjc C n)→Re (partX [(⟨j,memC W F,memC W F,memC W F⟩:Piece)] 0++madeX []) (.bool (decide (qjc C n))) (.bool b):=fun b e=>by rw[e];exact .plain rfl
 by_cases hi:q<n
 ·have ej:((q+1:Nat):Int)=IntKind.i64.wrap ((q:Int)+1):=by rw[i64s _ (by omega) (by omega)];omega
  obtain⟨hs,hc⟩:=hC q hi
  generalize hcc:C q=c at hs hc
  by_cases h150:q=150
  ·repeat' (refine N.go ?_;first|with_reducible (first|refine N.obl rfl ?_|refine N.forkT ?_)|refine N.op (qec (sz:=15) (g:=o0+q*15) tysOK rfl rfl (fun _=>rfl) rfl (by exact rfl) (by omega) (by omega) (by simp;first|done|fail)) ?_|refine N.op (qea (i:=0) (F:=F) (ds:=c.rs) (cs:=c.cs) rfl rfl rfl (by exact⟨rfl,rfl⟩) c.den rfl hc) ?_|refine N.forkYes (decide_eq_true (by show _≤_;omega)) ?_|refine N.forkYes (decide_eq_true (by show _<_;omega)) ?_|fail)
   refine N.go ?_
   refine N.endSame ?_
   refine N.obl (hend false (decide_eq_false (fun h=>by have:=h.1;omega)).symm) ?_
   repeat' (refine N.go ?_;first|refine N.obl ⟨⟨_,rfl,fun h=>h,nlr _,nzj⟩,trivial⟩ ?_|refine N.obl trivial ?_|refine N.obl ⟨⟨.inr ⟨_,rfl,rfl⟩,trivial⟩,trivial⟩ ?_|exact N.true|fail)
  by_cases hbig:1100<uN c.u
  ·repeat' (refine N.go ?_;first|with_reducible (first|refine N.obl rfl ?_|refine N.forkF ?_)|refine N.op (qec (sz:=15) (g:=o0+q*15) tysOK rfl rfl (fun _=>rfl) rfl (by exact rfl) (by omega) (by omega) (by simp;first|done|fail)) ?_|refine N.op (qea (i:=0) (F:=F) (ds:=c.rs) (cs:=c.cs) rfl rfl rfl (by exact⟨rfl,rfl⟩) c.den rfl hc) ?_|refine N.op (qed rfl rfl ⟨_,rfl,_,Tryz.underlying39⟩) ?_|refine N.forkNo (decide_eq_false (by show ¬ _≤_;omega)) ?_|refine N.forkYes (decide_eq_true (by show _<_;omega)) ?_|fail)
   refine N.go ?_
   refine N.endSame ?_
   refine N.obl (hend false (decide_eq_false (fun h=>by have:=h.2 q hi;rw[hcc] at this;omega)).symm) ?_
   repeat' (refine N.go ?_;first|refine N.obl ⟨⟨_,rfl,fun h=>h,nlr _,nzj⟩,trivial⟩ ?_|refine N.obl trivial ?_|refine N.obl ⟨⟨.inr ⟨_,rfl,rfl⟩,trivial⟩,trivial⟩ ?_|exact N.true|fail)
  repeat' (refine N.go ?_;first|with_reducible (first|refine N.obl rfl ?_|refine N.forkF ?_)|refine N.op (qec (sz:=15) (g:=o0+q*15) tysOK rfl rfl (fun _=>rfl) rfl (by exact rfl) (by omega) (by omega) (by simp;first|done|fail)) ?_|refine N.op (qea (i:=0) (F:=F) (ds:=c.rs) (cs:=c.cs) rfl rfl rfl (by exact⟨rfl,rfl⟩) c.den rfl hc) ?_|refine N.op (qed rfl rfl ⟨_,rfl,_,Tryz.underlying39⟩) ?_|refine N.forkNo (decide_eq_false (by show ¬ _≤_;omega)) ?_|refine N.forkYes (decide_eq_true (by show _<_;omega)) ?_|refine N.forkNo (decide_eq_false (by show ¬ _<_;omega)) ?_|fail)
  refine N.go ?_
  refine N.nextR (α:=Nat) (q+1) [(0,0)] ⟨⟨hi,by show q+1≤150;omega,fun i h2=>by
   by_cases e:i=q
   ·subst e;rw[hcc];omega
   ·exact hq3 i (by omega)⟩,by show n-(q+1)<n-q;omega⟩ ?_
  repeat' (refine N.go ?_;first|exact N.true|refine N.obl (@ChunkReLe.mk _ _ _ ⟨.inr rfl⟩ id (nlr _) (nzj)) ?_|refine N.obl (.plain (by rfl)) ?_|refine N.obl (qa2 (qaz ej) rfl) ?_|fail)
 ·repeat' (refine N.go ?_;first|refine N.forkNo (decide_eq_false (by show ¬ _<_;omega)) ?_|fail)
  refine N.go ?_
  refine N.endSame ?_
  refine N.obl (hend true (decide_eq_true (show qjc C n from⟨by omega,fun i hi=>hq3 i (by omega)⟩)).symm) ?_
  repeat' (refine N.go ?_;first|refine N.obl ⟨⟨_,rfl,fun h=>h,nlr _,nzj⟩,trivial⟩ ?_|refine N.obl trivial ?_|refine N.obl ⟨⟨.inr ⟨_,rfl,rfl⟩,trivial⟩,trivial⟩ ?_|exact N.true|fail)
open Go Go.RowKit Sx
theorem N.endM2 {v V:Value} {st:St} {W:World} (F:List By) (h1:v=V) (h2:st.h[0]?=some (some (memC W F))):N (v=V∧∃ F,st.h[0]?=some (some (memC W F))):=N.mk ⟨h1,F,h2⟩
def DeafR (W:World) (C:Nat→Int) (n k:Nat) (F:FS) (c:Sp) (e:Int) (F':FS) (B':List By):Prop:=F'.C=C∧F'.n=n∧CrOK C n (k+1) F'.cr∧FlE W B' F'∧StepF n F.cr F'.cr c e
theorem q3o (C:Nat→Int) (n:Nat) (hC:CfOK C) (h9:2≤C 9) (hn:1≤n∧n≤64) (k:Nat) (hk:k<60000) (c:Sp) (hkd:c.kd≠3∧c.kd≠7) (W:World) (B:List By) (F:FS) (hFC:F.C=C) (hFn:F.n=n) (ok:CrOK C n k F.cr) (hE:FlE W B F) (i j:Nat) (hij:i≠j) (h:Hp) (hi:h[i]?=some (some (flP F))) (hj:h[j]?=some (some (memC W B))) :
  CallAll Tryz.prog 10 [.pointer (some ⟨i,0,some 0⟩),c.v] h (StR W (DeafR W C n k F c) i j):=by
 by_cases hm:c.kd=4∨c.kd=5∨c.kd=6
 ·refine qae (q3l C n hn.1 F.cr c hm W B F hFC hFn rfl hE i j hij h hi hj) fun v ms hR=>?_
  obtain⟨e,F',B',⟨h1,h2,h3,h4⟩,rfl,rfl⟩:=hR
  exact⟨e,F',B',⟨h1,h2,by rw[h3];exact ok.more (Nat.le_succ _),h4,by rw[h3];exact StepF.same n F.cr c e (.inr (by omega))⟩,rfl,rfl⟩
 ·obtain⟨e,c',h1,h2,h3⟩:=q3k C n hC h9 hn k hk F.cr ok c (by omega)
  refine qae (h3 W B F hFC hFn rfl hE i j hij h hi hj) fun v ms hR=>?_
  obtain⟨e',F',B',⟨⟨rfl,g1,g2,g3,g4⟩,_⟩,rfl,rfl⟩:=hR
  exact⟨_,F',B',⟨g1,g2,by rw[g3];exact h1,g4,by rw[g3];exact h2⟩,rfl,rfl⟩
theorem q54 {n p:Nat} {M:Nat→Bool} {b:Bool} (h:p<n):Writes (mvP true n M) p 1 (.bool b) (mvP true n (upd M p b)):=by
 refine⟨rfl,h,rfl,fun j hj=>?_⟩
 have hj:j<n:=hj
 rw[qaq hj,qaq hj]
 by_cases e:j=p
 ·subst e
  rw[qb7,if_pos (by omega),Nat.sub_self];rfl
 ·rw[qbz _ _ e,if_neg (by omega)]
theorem q3p (C:Nat→Int) (hC:CfOK C) (h9:2≤C 9) (n:Nat) (hn:n≤64):CrOK C n 0 ⟨pos0,fun _=>false,0,nodeS C,fun _=>true⟩:=by
 refine⟨fun m hm=>?_,fun m hm=>q3h m (by omega),(show(0:Int)≤0∧(0:Int)≤((0:Nat):Int) by decide)⟩
 have hk:=qjb C hC h9 0 m 0 (by decide)
 show NdK C 0 m true (nodeS C m)
 unfold nodeS
 split
 ·exact hk true _ _ _ _ _ fun _=>⟨qnb m (by omega),by decide,by decide,by decide,by decide⟩
 ·exact hk false 0 0 0 0 0 fun h=>by cases h
structure DQ where
 i:Nat
 F:FS
 B:List By
 kn:Nat→Bool
theorem qgq (c:Sp) {ix:List (Nat×Nat)}:∀ j,j<15→Re1 ix (Chunk.f (⟨true,15,[(0,15,c.v)]⟩:Chunk) j) (Chunk.f (⟨true,15,[(0,15,c.v)]⟩:Chunk) j):=fun j hj=>by
 match j,hj with
 | 0,_=>exact .plain rfl
 | 1,_=>exact .plain rfl
 | 2,_=>exact .plain rfl
 | 3,_=>exact .plain rfl
 | 4,_=>exact .plain rfl
 | 5,_=>exact .plain rfl
 | 6,_=>exact .plain rfl
 | 7,_=>exact .plain rfl
 | 8,_=>exact .plain rfl
 | 9,_=>exact .plain rfl
 | 10,_=>exact .plain rfl
 | 11,_=>exact .plain rfl
 | 12,_=>exact .plain rfl
 | 13,_=>exact .plain rfl
 | 14,_=>exact .quo
abbrev fnew (C:Nat→Int) (n:Nat) (g:Nat→Nat×Nat):FS:=⟨C,n,pos0,fun _=>false,0,0,[],g,nodeS C,fun _=>true,0⟩
theorem walkV (b0 o0 n0 cap:Nat) (C0:Nat→Sp) (Bs:Nat→List Int) (nd sp er ev:Int) (W:World) (hW:b0<W.heap.size) (hS:Steps W b0 o0 n0 C0 Bs) (hnn:n0≤9223372036854775807) :
  Calls Tryz.prog 3 #[.int .i64 nd,.int .i64 sp,.int .i64 er,.int .i64 ev,.slice (some ⟨b0,o0,none⟩) n0 cap] W fun e w'=>e=.returned (.bool true)∧Below W.heap.size W w':=by
 have hC:CfOK (cf6 nd 4 sp er ev 5):=qnc nd 4 sp er ev 5
 have h9:2≤(cf6 nd 4 sp er ev 5) 9:=by show 2≤1+md 5 8;decide
 obtain⟨n,hn,hn8⟩:∃ n:Nat,(cf6 nd 4 sp er ev 5) 0=(n:Int)∧1≤n∧n≤8:=by
  have:=md_b nd 8 (by decide) (by decide)
  exact⟨(1+md nd 8).toNat,by show 1+md nd 8=_;omega,by omega,by omega⟩
 refine qvj W tysOK mixed Tryz.func3 (by rfl) (by omega) rfl rfl ?_
 by_cases hL:qjc C0 n0
 ·repeat' (refine N.go ?_;first|with_reducible refine N.obl rfl ?_|refine N.call (q05 W [] b0 o0 n0 cap C0 Bs hS hnn 0 _ (by rfl)) ?_|refine N.forkNo (ndF hL) ?_|refine N.call (qor nd 4 sp er ev 5 _) ?_|fail)
  refine N.go ?_
  refine N.callAll (qvn (cf6 nd 4 sp er ev 5) hC (qwe hC) n hn hn8.2 (by show(200:Int)≤1000000000000;decide) 7 8 (by decide) _ (by rfl) (by rfl)) fun v ms hR=>?_
  obtain⟨g,rfl,rfl⟩:=hR
  repeat' (refine N.go ?_;first|with_reducible (first|refine N.obl (by decide) ?_|refine N.forkF ?_)|refine N.forkNo (by decide) ?_|fail)
  refine N.go ?_
  refine N.loopR (α:=DQ) (fun q=>q.i≤n0∧q.F.C=(cf6 nd 4 sp er ev 5)∧q.F.n=n∧CrOK (cf6 nd 4 sp er ev 5) n q.i q.F.cr∧FlE W q.B q.F∧∀ m,m<n→(q.F.s m).fv=true→q.kn m=true) (fun q=>n0-q.i) (fun q=>[(43,.int .i64 (q.i:Int))]) (fun q=>[(0,memC W q.B),(7,flP q.F),(9,mvP true 8 q.kn)]) ⟨0,fnew (cf6 nd 4 sp er ev 5) n g,[],fun j=>decide (j<3)⟩ [(0,0),(5,5),(7,7),(8,8),(9,9)] ⟨Nat.zero_le _,rfl,rfl,q3p (cf6 nd 4 sp er ev 5) hC h9 n (by omega),⟨by show(0:Int)≤0∧(0:Int)≤16777215;decide,by show(0:Int)≤0∧(0:Int)≤1000000;decide,⟨[],.nil⟩,Nat.zero_le _⟩,fun m hm hv=>?_⟩ ?_ ?_
  ·have hv:(nodeS (cf6 nd 4 sp er ev 5) m).fv=true:=hv
   unfold nodeS at hv
   by_cases h3:m<3
   ·exact decide_eq_true h3
   ·rw[if_neg h3] at hv;cases hv
  ·repeat' (refine N.go ?_;first|exact N.true|refine N.obl (@ChunkReLe.mk _ _ _ ⟨.inr rfl⟩ id (nlr _) (nzj)) ?_|refine N.obl (.plain (by rfl)) ?_|refine N.obl (.one (.ptr rfl)) ?_|refine N.obl ⟨id,nlr _,qay⟩ ?_|refine N.obl (ChunkReLe.same (qaw (by rfl) (by rfl))) ?_|refine N.obl (.tuple ⟨.ptr rfl,.plain rfl,trivial⟩) ?_|fail)
  rintro q ⟨q1,q2,q3,q4,q5,q6⟩
  have q1:q.i≤n0:=q1
  have hl150:=hL.1
  by_cases hi:q.i<n0
  ·have ej:((q.i+1:Nat):Int)=IntKind.i64.wrap ((q.i:Int)+1):=by rw[i64s _ (by omega) (by omega)];omega
   obtain⟨hs,hc⟩:=hS q.i hi
   generalize hcc:C0 q.i=c at hs hc
   by_cases h37:c.kd=3∨c.kd=7
   ·have hnx:CrOK (cf6 nd 4 sp er ev 5) n (q.i+1) q.F.cr:=q4.more (Nat.le_succ _)
    rcases h37 with hk|hk
    ·repeat' (refine N.go ?_;first|with_reducible (first|refine N.obl rfl ?_|refine N.forkT ?_)|refine N.op (qec (sz:=15) (g:=o0+q.i*15) tysOK rfl rfl (fun _=>rfl) rfl (by exact rfl) (by omega) (by omega) (by simp;first|done|fail)) ?_|refine N.op (qea (i:=0) (F:=q.B) (ds:=c.rs) (cs:=c.cs) rfl rfl rfl (by exact⟨rfl,rfl⟩) c.den rfl hc) ?_|refine N.forkYes (decide_eq_true (by show _<_;omega)) ?_|refine N.forkYes (kY (by omega)) ?_|fail)
     refine N.go ?_
     refine N.nextR (α:=DQ) ⟨q.i+1,q.F,q.B,q.kn⟩ [(0,0),(5,5),(7,7),(8,8),(9,9)] ⟨⟨hi,q2,q3,hnx,q5,q6⟩,by show n0-(q.i+1)<n0-q.i;omega⟩ ?_
     repeat' (refine N.go ?_;first|exact N.true|refine N.obl (@ChunkReLe.mk _ _ _ ⟨.inr rfl⟩ id (nlr _) (nzj)) ?_|refine N.obl (.plain (by rfl)) ?_|refine N.obl (.one (.ptr rfl)) ?_|refine N.obl (qa2 (qaz ej) rfl) ?_|refine N.obl ⟨id,nlr _,qay⟩ ?_|refine N.obl (ChunkReLe.same (qaw (by rfl) (by rfl))) ?_|refine N.obl (.tuple ⟨.ptr rfl,.plain rfl,trivial⟩) ?_|fail)
    ·repeat' (refine N.go ?_;first|with_reducible (first|refine N.obl rfl ?_|refine N.forkF ?_)|refine N.op (qec (sz:=15) (g:=o0+q.i*15) tysOK rfl rfl (fun _=>rfl) rfl (by exact rfl) (by omega) (by omega) (by simp;first|done|fail)) ?_|refine N.op (qea (i:=0) (F:=q.B) (ds:=c.rs) (cs:=c.cs) rfl rfl rfl (by exact⟨rfl,rfl⟩) c.den rfl hc) ?_|refine N.forkYes (decide_eq_true (by show _<_;omega)) ?_|refine N.forkNo (kN (by omega)) ?_|refine N.forkYes (kY (by omega)) ?_|fail)
     refine N.go ?_
     refine N.nextR (α:=DQ) ⟨q.i+1,q.F,q.B,q.kn⟩ [(0,0),(5,5),(7,7),(8,8),(9,9)] ⟨⟨hi,q2,q3,hnx,q5,q6⟩,by show n0-(q.i+1)<n0-q.i;omega⟩ ?_
     repeat' (refine N.go ?_;first|exact N.true|refine N.obl (@ChunkReLe.mk _ _ _ ⟨.inr rfl⟩ id (nlr _) (nzj)) ?_|refine N.obl (.plain (by rfl)) ?_|refine N.obl (.one (.ptr rfl)) ?_|refine N.obl (qa2 (qaz ej) rfl) ?_|refine N.obl ⟨id,nlr _,qay⟩ ?_|refine N.obl (ChunkReLe.same (qaw (by rfl) (by rfl))) ?_|refine N.obl (.tuple ⟨.ptr rfl,.plain rfl,trivial⟩) ?_|fail)
   have hk3:c.kd≠3:=fun h=>h37 (.inl h)
   have hk7:c.kd≠7:=fun h=>h37 (.inr h)
   repeat' (refine N.go ?_;first|with_reducible (first|refine N.obl rfl ?_|refine N.forkF ?_)|refine N.op (qec (sz:=15) (g:=o0+q.i*15) tysOK rfl rfl (fun _=>rfl) rfl (by exact rfl) (by omega) (by omega) (by simp;first|done|fail)) ?_|refine N.op (qea (i:=0) (F:=q.B) (ds:=c.rs) (cs:=c.cs) rfl rfl rfl (by exact⟨rfl,rfl⟩) c.den rfl hc) ?_|refine N.forkYes (decide_eq_true (by show _<_;omega)) ?_|refine N.forkNo (kN (by omega)) ?_|fail)
   refine N.go ?_
   refine N.callAll (q3o (cf6 nd 4 sp er ev 5) n hC h9 ⟨hn8.1,by omega⟩ q.i (by omega) c ⟨hk3,hk7⟩ W q.B q.F q2 q3 q4 q5 7 0 (by decide) _ (by rfl) (by rfl)) fun v ms hR=>?_
   obtain⟨e,F',B',⟨f1,f2,f3,f4,f5⟩,rfl,rfl⟩:=hR
   by_cases hb:c.kd=8∧e=0
   ·obtain⟨hb1,hb2⟩:=hb
    have hnd:=f5.boot hb1 hb2
    obtain⟨m0,hm0⟩:∃ m0:Nat,c.nd=m0:=⟨c.nd.toNat,by omega⟩
    have hkn:∀ m,m<n→(F'.s m).fv=true→(upd q.kn m0 (!(c.ex==0&&(c.ey==0&&(c.ea==0&&(c.eb==0&&c.ed==0)))))) m=true:=fun m hm hv=>by
     rcases f5.know m hm hv with ⟨_,_,h3,h4⟩|⟨h3,h4⟩
     ·obtain rfl:m=m0:=by omega
      rw[qb7,z_ell]
      exact decide_eq_true h4
     ·rw[qbz _ _ (fun e=>h3 ⟨hb1,hb2,by omega⟩)]
      exact q6 m hm h4
    repeat' (refine N.go ?_;first|with_reducible (first|refine N.obl ⟨by kernel_rfl,by kernel_rfl⟩ ?_|refine N.forkT ?_)|refine N.forkYes (kY (by omega)) ?_|refine N.idx m0 1 hm0 (by omega) ?_|refine N.store _ (q54 (by omega)) ?_|refine N.bin _ (qiv _ _ _ _ _ _ _ _ _ _ _ _) ?_|fail)
    refine N.go ?_
    refine N.loopR (α:=Nat) (fun m=>m≤n) (fun m=>n-m) (fun m=>[(74,.int .i64 (m:Int))]) (fun m=>[]) 0 [(0,0),(5,5),(7,7),(8,8),(9,9),(10,10)] (Nat.zero_le _) ?_ ?_
    ·repeat' (refine N.go ?_;first|exact N.true|refine N.obl (@ChunkReLe.mk _ _ _ ⟨.inr rfl⟩ id (nlr _) (nzj)) ?_|refine N.obl (.plain (by rfl)) ?_|refine N.obl (.one (.ptr rfl)) ?_|refine N.obl ⟨id,nlr _,qay⟩ ?_|refine N.obl (ChunkReLe.same (qaw (by rfl) (by rfl))) ?_|refine N.obl (.tuple ⟨.ptr rfl,.plain rfl,trivial⟩) ?_|refine N.obl (.one c.re) ?_|refine N.obl ⟨id,nlr _,qgq c⟩ ?_|fail)
    intro m hmn
    have hmn:m≤n:=hmn
    by_cases hm:m<n
    ·have ej2:((m+1:Nat):Int)=IntKind.i64.wrap ((m:Int)+1):=by rw[i64s _ (by omega) (by omega)];omega
     have hmF:m<F'.n:=by rw[f2];exact hm
     have hE:(F'.s m).T.E=[]:=(f3.nd m hm).E
     cases hv:(F'.s m).fv with
     | false=>
      repeat' (refine N.go ?_;first|with_reducible (first|refine N.obl rfl ?_|refine N.forkF ?_)|refine N.forkNo (by decide) ?_|refine N.forkYes (decide_eq_true (show(m:Int)<(cf6 nd 4 sp er ev 5) 0 by rw[hn];omega)) ?_|refine N.call (qek F' m hmF 7 _ (by rfl)) ?_|refine N.call (qcm F' m hmF hE 7 12 _ (by rfl) (by rfl)) ?_|refine N.forkNo hv ?_|fail)
      refine N.go ?_
      refine N.nextR (α:=Nat) (m+1) [(0,0),(5,5),(7,7),(8,8),(9,9),(10,10)] ⟨hm,by show n-(m+1)<n-m;omega⟩ ?_
      repeat' (refine N.go ?_;first|exact N.true|refine N.obl (@ChunkReLe.mk _ _ _ ⟨.inr rfl⟩ id (nlr _) (nzj)) ?_|refine N.obl (.plain (by rfl)) ?_|refine N.obl (.one (.ptr rfl)) ?_|refine N.obl ⟨id,nlr _,qay⟩ ?_|refine N.obl (ChunkReLe.same (qaw (by rfl) (by rfl))) ?_|refine N.obl (.tuple ⟨.ptr rfl,.plain rfl,trivial⟩) ?_|refine N.obl (.one c.re) ?_|refine N.obl ⟨id,nlr _,qgq c⟩ ?_|refine N.obl (qa2 (qaz ej2) rfl) ?_|fail)
     | true=>
      have hk:=hkn m hm hv
      repeat' (refine N.go ?_;first|with_reducible (first|refine N.obl rfl ?_|refine N.forkT ?_|refine N.forkF ?_)|refine N.forkNo (by decide) ?_|refine N.forkYes (decide_eq_true (show(m:Int)<(cf6 nd 4 sp er ev 5) 0 by rw[hn];omega)) ?_|refine N.call (qek F' m hmF 7 _ (by rfl)) ?_|refine N.call (qcm F' m hmF hE 7 12 _ (by rfl) (by rfl)) ?_|refine N.forkYes hv ?_|refine N.idx m 1 rfl (by omega) ?_|refine N.load _ (qfd (by omega)) ?_|refine N.forkNo (by rw[hk];rfl) ?_|fail)
      refine N.go ?_
      refine N.nextR (α:=Nat) (m+1) [(0,0),(5,5),(7,7),(8,8),(9,9),(10,10)] ⟨hm,by show n-(m+1)<n-m;omega⟩ ?_
      repeat' (refine N.go ?_;first|exact N.true|refine N.obl (@ChunkReLe.mk _ _ _ ⟨.inr rfl⟩ id (nlr _) (nzj)) ?_|refine N.obl (.plain (by rfl)) ?_|refine N.obl (.one (.ptr rfl)) ?_|refine N.obl ⟨id,nlr _,qay⟩ ?_|refine N.obl (ChunkReLe.same (qaw (by rfl) (by rfl))) ?_|refine N.obl (.tuple ⟨.ptr rfl,.plain rfl,trivial⟩) ?_|refine N.obl (.one c.re) ?_|refine N.obl ⟨id,nlr _,qgq c⟩ ?_|refine N.obl (qa2 (qaz ej2) rfl) ?_|fail)
    ·repeat' (refine N.go ?_;first|refine N.forkNo (decide_eq_false (show ¬ (m:Int)<(cf6 nd 4 sp er ev 5) 0 by rw[hn];omega)) ?_|fail)
     refine N.go ?_
     refine N.nextR (α:=DQ) ⟨q.i+1,F',B',(upd q.kn m0 (!(c.ex==0&&(c.ey==0&&(c.ea==0&&(c.eb==0&&c.ed==0))))))⟩ [(0,0),(5,5),(7,7),(8,8),(9,9)] ⟨⟨hi,f1,f2,f3,f4,hkn⟩,by show n0-(q.i+1)<n0-q.i;omega⟩ ?_
     repeat' (refine N.go ?_;first|exact N.true|refine N.obl (@ChunkReLe.mk _ _ _ ⟨.inr rfl⟩ id (nlr _) (nzj)) ?_|refine N.obl (.plain (by rfl)) ?_|refine N.obl (.one (.ptr rfl)) ?_|refine N.obl (qa2 (qaz ej) rfl) ?_|refine N.obl ⟨id,nlr _,qay⟩ ?_|refine N.obl (ChunkReLe.same (qaw (by rfl) (by rfl))) ?_|refine N.obl (.tuple ⟨.ptr rfl,.plain rfl,trivial⟩) ?_|fail)
   ·have hkn:∀ m,m<n→(F'.s m).fv=true→q.kn m=true:=fun m hm hv=>by
     rcases f5.know m hm hv with ⟨h1,h2,_,_⟩|⟨_,h4⟩
     ·exact absurd ⟨h1,h2⟩ hb
     ·exact q6 m hm h4
    by_cases hb1:c.kd=8
    ·have hb2:e≠0:=fun h=>hb ⟨hb1,h⟩
     repeat' (refine N.go ?_;first|with_reducible refine N.forkT ?_|refine N.forkNo (kN (by omega)) ?_|refine N.forkYes (kY (by omega)) ?_|fail)
     refine N.go ?_
     refine N.loopR (α:=Nat) (fun m=>m≤n) (fun m=>n-m) (fun m=>[(74,.int .i64 (m:Int))]) (fun m=>[]) 0 [(0,0),(5,5),(7,7),(8,8),(9,9),(10,10)] (Nat.zero_le _) ?_ ?_
     ·repeat' (refine N.go ?_;first|exact N.true|refine N.obl (@ChunkReLe.mk _ _ _ ⟨.inr rfl⟩ id (nlr _) (nzj)) ?_|refine N.obl (.plain (by rfl)) ?_|refine N.obl (.one (.ptr rfl)) ?_|refine N.obl ⟨id,nlr _,qay⟩ ?_|refine N.obl (ChunkReLe.same (qaw (by rfl) (by rfl))) ?_|refine N.obl (.tuple ⟨.ptr rfl,.plain rfl,trivial⟩) ?_|refine N.obl (.one c.re) ?_|refine N.obl ⟨id,nlr _,qgq c⟩ ?_|fail)
     intro m hmn
     have hmn:m≤n:=hmn
     by_cases hm:m<n
     ·have ej2:((m+1:Nat):Int)=IntKind.i64.wrap ((m:Int)+1):=by rw[i64s _ (by omega) (by omega)];omega
      have hmF:m<F'.n:=by rw[f2];exact hm
      have hE:(F'.s m).T.E=[]:=(f3.nd m hm).E
      cases hv:(F'.s m).fv with
      | false=>
       repeat' (refine N.go ?_;first|with_reducible (first|refine N.obl rfl ?_|refine N.forkF ?_)|refine N.forkNo (by decide) ?_|refine N.forkYes (decide_eq_true (show(m:Int)<(cf6 nd 4 sp er ev 5) 0 by rw[hn];omega)) ?_|refine N.call (qek F' m hmF 7 _ (by rfl)) ?_|refine N.call (qcm F' m hmF hE 7 12 _ (by rfl) (by rfl)) ?_|refine N.forkNo hv ?_|fail)
       refine N.go ?_
       refine N.nextR (α:=Nat) (m+1) [(0,0),(5,5),(7,7),(8,8),(9,9),(10,10)] ⟨hm,by show n-(m+1)<n-m;omega⟩ ?_
       repeat' (refine N.go ?_;first|exact N.true|refine N.obl (@ChunkReLe.mk _ _ _ ⟨.inr rfl⟩ id (nlr _) (nzj)) ?_|refine N.obl (.plain (by rfl)) ?_|refine N.obl (.one (.ptr rfl)) ?_|refine N.obl ⟨id,nlr _,qay⟩ ?_|refine N.obl (ChunkReLe.same (qaw (by rfl) (by rfl))) ?_|refine N.obl (.tuple ⟨.ptr rfl,.plain rfl,trivial⟩) ?_|refine N.obl (.one c.re) ?_|refine N.obl ⟨id,nlr _,qgq c⟩ ?_|refine N.obl (qa2 (qaz ej2) rfl) ?_|fail)
      | true=>
       have hk:=hkn m hm hv
       repeat' (refine N.go ?_;first|with_reducible (first|refine N.obl rfl ?_|refine N.forkT ?_|refine N.forkF ?_)|refine N.forkNo (by decide) ?_|refine N.forkYes (decide_eq_true (show(m:Int)<(cf6 nd 4 sp er ev 5) 0 by rw[hn];omega)) ?_|refine N.call (qek F' m hmF 7 _ (by rfl)) ?_|refine N.call (qcm F' m hmF hE 7 12 _ (by rfl) (by rfl)) ?_|refine N.forkYes hv ?_|refine N.idx m 1 rfl (by omega) ?_|refine N.load _ (qfd (by omega)) ?_|refine N.forkNo (by rw[hk];rfl) ?_|fail)
       refine N.go ?_
       refine N.nextR (α:=Nat) (m+1) [(0,0),(5,5),(7,7),(8,8),(9,9),(10,10)] ⟨hm,by show n-(m+1)<n-m;omega⟩ ?_
       repeat' (refine N.go ?_;first|exact N.true|refine N.obl (@ChunkReLe.mk _ _ _ ⟨.inr rfl⟩ id (nlr _) (nzj)) ?_|refine N.obl (.plain (by rfl)) ?_|refine N.obl (.one (.ptr rfl)) ?_|refine N.obl ⟨id,nlr _,qay⟩ ?_|refine N.obl (ChunkReLe.same (qaw (by rfl) (by rfl))) ?_|refine N.obl (.tuple ⟨.ptr rfl,.plain rfl,trivial⟩) ?_|refine N.obl (.one c.re) ?_|refine N.obl ⟨id,nlr _,qgq c⟩ ?_|refine N.obl (qa2 (qaz ej2) rfl) ?_|fail)
     ·repeat' (refine N.go ?_;first|refine N.forkNo (decide_eq_false (show ¬ (m:Int)<(cf6 nd 4 sp er ev 5) 0 by rw[hn];omega)) ?_|fail)
      refine N.go ?_
      refine N.nextR (α:=DQ) ⟨q.i+1,F',B',q.kn⟩ [(0,0),(5,5),(7,7),(8,8),(9,9)] ⟨⟨hi,f1,f2,f3,f4,hkn⟩,by show n0-(q.i+1)<n0-q.i;omega⟩ ?_
      repeat' (refine N.go ?_;first|exact N.true|refine N.obl (@ChunkReLe.mk _ _ _ ⟨.inr rfl⟩ id (nlr _) (nzj)) ?_|refine N.obl (.plain (by rfl)) ?_|refine N.obl (.one (.ptr rfl)) ?_|refine N.obl (qa2 (qaz ej) rfl) ?_|refine N.obl ⟨id,nlr _,qay⟩ ?_|refine N.obl (ChunkReLe.same (qaw (by rfl) (by rfl))) ?_|refine N.obl (.tuple ⟨.ptr rfl,.plain rfl,trivial⟩) ?_|fail)
    ·repeat' (refine N.go ?_;first|with_reducible refine N.forkF ?_|refine N.forkNo (kN (by omega)) ?_|fail)
     refine N.go ?_
     refine N.loopR (α:=Nat) (fun m=>m≤n) (fun m=>n-m) (fun m=>[(74,.int .i64 (m:Int))]) (fun m=>[]) 0 [(0,0),(5,5),(7,7),(8,8),(9,9),(10,10)] (Nat.zero_le _) ?_ ?_
     ·repeat' (refine N.go ?_;first|exact N.true|refine N.obl (@ChunkReLe.mk _ _ _ ⟨.inr rfl⟩ id (nlr _) (nzj)) ?_|refine N.obl (.plain (by rfl)) ?_|refine N.obl (.one (.ptr rfl)) ?_|refine N.obl ⟨id,nlr _,qay⟩ ?_|refine N.obl (ChunkReLe.same (qaw (by rfl) (by rfl))) ?_|refine N.obl (.tuple ⟨.ptr rfl,.plain rfl,trivial⟩) ?_|refine N.obl (.one c.re) ?_|refine N.obl ⟨id,nlr _,qgq c⟩ ?_|fail)
     intro m hmn
     have hmn:m≤n:=hmn
     by_cases hm:m<n
     ·have ej2:((m+1:Nat):Int)=IntKind.i64.wrap ((m:Int)+1):=by rw[i64s _ (by omega) (by omega)];omega
      have hmF:m<F'.n:=by rw[f2];exact hm
      have hE:(F'.s m).T.E=[]:=(f3.nd m hm).E
      cases hv:(F'.s m).fv with
      | false=>
       repeat' (refine N.go ?_;first|with_reducible (first|refine N.obl rfl ?_|refine N.forkF ?_)|refine N.forkNo (by decide) ?_|refine N.forkYes (decide_eq_true (show(m:Int)<(cf6 nd 4 sp er ev 5) 0 by rw[hn];omega)) ?_|refine N.call (qek F' m hmF 7 _ (by rfl)) ?_|refine N.call (qcm F' m hmF hE 7 12 _ (by rfl) (by rfl)) ?_|refine N.forkNo hv ?_|fail)
       refine N.go ?_
       refine N.nextR (α:=Nat) (m+1) [(0,0),(5,5),(7,7),(8,8),(9,9),(10,10)] ⟨hm,by show n-(m+1)<n-m;omega⟩ ?_
       repeat' (refine N.go ?_;first|exact N.true|refine N.obl (@ChunkReLe.mk _ _ _ ⟨.inr rfl⟩ id (nlr _) (nzj)) ?_|refine N.obl (.plain (by rfl)) ?_|refine N.obl (.one (.ptr rfl)) ?_|refine N.obl ⟨id,nlr _,qay⟩ ?_|refine N.obl (ChunkReLe.same (qaw (by rfl) (by rfl))) ?_|refine N.obl (.tuple ⟨.ptr rfl,.plain rfl,trivial⟩) ?_|refine N.obl (.one c.re) ?_|refine N.obl ⟨id,nlr _,qgq c⟩ ?_|refine N.obl (qa2 (qaz ej2) rfl) ?_|fail)
      | true=>
       have hk:=hkn m hm hv
       repeat' (refine N.go ?_;first|with_reducible (first|refine N.obl rfl ?_|refine N.forkT ?_|refine N.forkF ?_)|refine N.forkNo (by decide) ?_|refine N.forkYes (decide_eq_true (show(m:Int)<(cf6 nd 4 sp er ev 5) 0 by rw[hn];omega)) ?_|refine N.call (qek F' m hmF 7 _ (by rfl)) ?_|refine N.call (qcm F' m hmF hE 7 12 _ (by rfl) (by rfl)) ?_|refine N.forkYes hv ?_|refine N.idx m 1 rfl (by omega) ?_|refine N.load _ (qfd (by omega)) ?_|refine N.forkNo (by rw[hk];rfl) ?_|fail)
       refine N.go ?_
       refine N.nextR (α:=Nat) (m+1) [(0,0),(5,5),(7,7),(8,8),(9,9),(10,10)] ⟨hm,by show n-(m+1)<n-m;omega⟩ ?_
       repeat' (refine N.go ?_;first|exact N.true|refine N.obl (@ChunkReLe.mk _ _ _ ⟨.inr rfl⟩ id (nlr _) (nzj)) ?_|refine N.obl (.plain (by rfl)) ?_|refine N.obl (.one (.ptr rfl)) ?_|refine N.obl ⟨id,nlr _,qay⟩ ?_|refine N.obl (ChunkReLe.same (qaw (by rfl) (by rfl))) ?_|refine N.obl (.tuple ⟨.ptr rfl,.plain rfl,trivial⟩) ?_|refine N.obl (.one c.re) ?_|refine N.obl ⟨id,nlr _,qgq c⟩ ?_|refine N.obl (qa2 (qaz ej2) rfl) ?_|fail)
     ·repeat' (refine N.go ?_;first|refine N.forkNo (decide_eq_false (show ¬ (m:Int)<(cf6 nd 4 sp er ev 5) 0 by rw[hn];omega)) ?_|fail)
      refine N.go ?_
      refine N.nextR (α:=DQ) ⟨q.i+1,F',B',q.kn⟩ [(0,0),(5,5),(7,7),(8,8),(9,9)] ⟨⟨hi,f1,f2,f3,f4,hkn⟩,by show n0-(q.i+1)<n0-q.i;omega⟩ ?_
      repeat' (refine N.go ?_;first|exact N.true|refine N.obl (@ChunkReLe.mk _ _ _ ⟨.inr rfl⟩ id (nlr _) (nzj)) ?_|refine N.obl (.plain (by rfl)) ?_|refine N.obl (.one (.ptr rfl)) ?_|refine N.obl (qa2 (qaz ej) rfl) ?_|refine N.obl ⟨id,nlr _,qay⟩ ?_|refine N.obl (ChunkReLe.same (qaw (by rfl) (by rfl))) ?_|refine N.obl (.tuple ⟨.ptr rfl,.plain rfl,trivial⟩) ?_|fail)
  ·repeat' (refine N.go ?_;first|refine N.forkNo (decide_eq_false (by show ¬ _<_;omega)) ?_|with_reducible refine N.call (qlh _) ?_|fail)
   all_goals exact N.endM2 _ rfl rfl
 ·repeat' (refine N.go ?_;first|refine N.call (q05 W [] b0 o0 n0 cap C0 Bs hS hnn 0 _ (by rfl)) ?_|refine N.forkYes (ndT hL) ?_|with_reducible refine N.call (qlh _) ?_|fail)
  all_goals exact N.endM2 _ rfl rfl
end Go.Proofs.YtdljelmbjdjpjaaGreat
