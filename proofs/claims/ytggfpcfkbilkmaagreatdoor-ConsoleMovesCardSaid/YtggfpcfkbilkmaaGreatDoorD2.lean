/-
  The evaluator: regions that draw their order, calls, loops, contracts with chunks.
-/
import Derived.Scope
import Derived.KernelRfl
import Derived.Test.YtggfpcfkbilkmaaGreatDoorD1
set_option linter.unusedVariables false
set_option linter.unusedSimpArgs false
set_option maxRecDepth 100000
set_option maxHeartbeats 20000000
theorem Go.Proofs.xf:type_of% @List.mem_cons:=@List.mem_cons
theorem Go.Proofs.yR:type_of% @List.getElem?_append_left:=@List.getElem?_append_left
theorem Go.Proofs.yY:type_of% @Array.getElem?_setIfInBounds:=@Array.getElem?_setIfInBounds
theorem Go.Proofs.yF:type_of% @List.getElem?_append_right:=@List.getElem?_append_right
theorem Go.Proofs.za:type_of% @List.getElem?_set:=@List.getElem?_set
theorem Go.Proofs.zc:type_of% @List.getElem?_take:=@List.getElem?_take
theorem Go.Proofs.zd:type_of% @List.mem_append_right:=@List.mem_append_right
theorem Go.Proofs.xM:type_of% @Nat.lt_trans:=@Nat.lt_trans
theorem Go.Proofs.yG:type_of% @List.length_eq_zero_iff:=@List.length_eq_zero_iff
theorem Go.Proofs.yc:type_of% @Nat.lt_or_ge:=@Nat.lt_or_ge
theorem Go.Proofs.xu:type_of% @decide_eq_true_eq:=@decide_eq_true_eq
theorem Go.Proofs.xP:type_of% @List.length_append:=@List.length_append
theorem Go.Proofs.xy:type_of% @List.mem_of_getElem?:=@List.mem_of_getElem?
theorem Go.Proofs.yZ:type_of% @List.mem_append:=@List.mem_append
theorem Go.Proofs.yS:type_of% @List.map_append:=@List.map_append
theorem Go.Proofs.yp:type_of% @List.mem_cons_self:=@List.mem_cons_self
theorem Go.Proofs.yH:type_of% @Nat.lt_succ_self:=@Nat.lt_succ_self
theorem Go.Proofs.yt:type_of% @Go.IntKind.wrap_i64:=@Go.IntKind.wrap_i64
namespace Go.Proofs
section
variable{Z Y:Prop}
theorem Q0F(h:Z:=by
 have hmem:i∈Region.ready .any ops listed:=mem_ready.2 ⟨by
  have hil:i<listed.size:=by omega
  simp[xY,yQ hil] at hl ⊢;exact hl,ops[i],yQ hi,λe hee hb=>by
   have hlt:=qeh he i ops[i] (by simp[hi]) e Q5W hb;exact ih e.on Q4P Q4P⟩
 rw[hr] at hmem;cases hmem):Z:=h
theorem Q1a(h:Z:=by
 rintro e w' ⟨rfl,hb⟩;exact⟨v,rfl,ρ,AgreeOn.refl _ _,H.frame hb,λr _=>qa7 hv r⟩):Z:=h
theorem Q1c(h:Z:=by
 refine⟨_,λi c=>?_,hk⟩;cases i with
 | zero=>simp
 | succ i=>simpa using hs i c):Z:=h
theorem Q1d(h:Z:=by
 refine wp_region_any hm ?_;refine qln (X:=X) (ρ:=ρ) hG h (λs ρ a w hk R'=>?_) ⟨R1.defers,R1.size,R1.slot,R1.heap.drew⟩;exact Q2f):Z:=h
theorem Q1k(h:Z:=by
 cases e:s.e.own with
 | true=>exact(hms (s.i,s.d) (List.mem_append_left _ (partM_mem.2 ⟨s,hs,e,rfl⟩))).trans (hin.at s hs)
 | false=>exact(hrd s.i (qhj ⟨s,hs,e,rfl⟩)).trans (hin.at s hs)):Z:=h
theorem Q1r(h:Z:=by
 constructor
 .rintro(h|h) ⟨h1,h2⟩
  .exact h1 h
  .exact h h2
 .intro h;rcases Classical.em (j=i) with e|e
  .exact .inl e
  .exact .inr λh2=>h ⟨e,h2⟩):Z:=h
theorem Q1K(h:Z:=by
 obtain⟨c,hc,rfl⟩:=qc7 hje;rw[xl,qec hc];exact hall _ (by simpa using (xe.1 (ho.at_ j c hc)).1)):Z:=h
theorem Q1P(h:Z:=by
 rcases xf.1 hs with rfl|hs
 .exact hp.1
 .exact hp.2.at s hs):Z:=h
theorem Q1U(h:Z:=by
 obtain⟨v,hk,hr⟩:=qry hG hq;obtain⟨x,hx,hd⟩:=hr X ρ' a' w' R';exact⟨R'.defers,x,hx,ρ',v,s,x,rfl,R'.heap,hd,hk⟩):Z:=h
theorem Q1V(h:Z:=by
 cases drop with
 | false=>exact⟨λe=>(by cases e),h⟩
 | true=>obtain⟨hs,h⟩:=N.out h;exact⟨λ_=>hs,h⟩):Z:=h
theorem Q1Y(h:Z:=by
 obtain⟨i,o,s⟩:=a;cases s with
 | none=>rfl
 | some s=>have:=ha i (filB_iff.1 hs);simp[den1,den0,q4a,this]):Z:=h
theorem Q2d(h:Z:=by ·rw[getD_set_ne false (λe=>hji e.symm)];simp[hji]):Z:=h
theorem Q2f(h:Z:=by
 obtain⟨t2,h3⟩:=s;obtain⟨h2,hs2,hk⟩:=qc9 hk;exact hq _ ρ a w hk (R'.same hs2)):Z:=h
theorem Q2m(h:Z:=by
 simp[xY,yQ his] at h0 ⊢;exact h0):Z:=h
theorem Q2q(h:Z:=by rw[if_pos hi,masks,qcg os _ i Q5q,yR Q4P]):Z:=h
theorem Q2r(h:Z:=by
 have:=ho.at_ k b hk;rw[hsz];simpa using (xe.1 this).1):Z:=h
theorem Q2s(h:Z:=by
 rcases hex s hmem with e|⟨e,_⟩
 .exact absurd e hx1
 .exact e):Z:=h
theorem Q2t(h:Z:=by rwa[show k+(i+1)=k+1+i by omega] at this):Z:=h
theorem Q2w(h:Z:=by
 simp only[xY,Array.getElem?_replicate];split<;>rfl):Z:=h
theorem Q2x(h:Z:=by
 .rw[hc] at hc';obtain rfl:c=c':=by simpa using hc'
  exact .inr e):Z:=h
theorem Q2A(h:Z:=by subst hji;simp[xY,yY,his]):Z:=h
theorem Q2I(h:Z:=by exact⟨x,hx,hd.more (AgreeOn.refl _ _) λk hk=>(s.fil k).2 hk⟩):Z:=h
theorem Q59(h:Z:=by simpa using hi):Z:=h
theorem Q5e(h:Z:=by simpa using hl):Z:=h
theorem Q5j(h:Z:=by cases h):Z:=h
theorem Q5l(h:Z:=by simp[Region.wanted,hg,hyl]):Z:=h
theorem Q5y(h:Z:=by obtain⟨c,hc⟩:=hf;exact⟨c,by simpa using hc⟩):Z:=h
theorem Q5B(h:Z:=by simpa using hj):Z:=h
theorem Q5J(h:Z:=by simpa using h):Z:=h
theorem Q5L(h:Z:=by simpa using hk):Z:=h
theorem Q5W(h:Z:=by simpa using hee):Z:=h
theorem Q65(h:Z:=by rw[yF (nlr _)];simp):Z:=h
end
end Go.Proofs

namespace Go.Proofs.YtggfpcfkbilkmaaGreatDoor.Sx
open Go Go.RowKit
structure Res where
 v:Value
 ms:Mz
 rh:List Nat
def St.after(st:St)(dst:Option Tmp)(v:Value)(ms:Mz):St:=
 ⟨match dst with
  | some d=>st.t.set d (some v)
  | none=>st.t,modH st.h ms⟩
def qb3(st:St)(dst:Option Tmp)(v:Value)(ms:Mz)(K:St->Prop):Prop:=
 match st with
 | ⟨t0,h0⟩=>match dst with
  | some d=>q6g t0 d v λt=>setM h0 ms λh=>K ⟨t,h⟩
  | none=>setM h0 ms λh=>K ⟨t0,h⟩
variable{st:St}{dst:Option Tmp}{ms:Mz}
theorem qc1{v:Value}{K:St->Prop}(h:qb3 st dst v ms K):K (st.after dst v ms):=by
 obtain⟨t0,h0⟩:=st;cases dst with
 | some d=>exact qjb (K:=λh=>K ⟨_,h⟩) (qcr (K:=λt=>setM h0 ms λh=>K ⟨t,h⟩) h)
 | none=>exact qjb (K:=λh=>K ⟨_,h⟩) h
def qbf:Op->Nat
 | .alloc _ | .box .. | .buildSlice .. | .makeSlice .. | .makeMap .. | .range ..=>1
 | .call _=>4
 | _=>0
abbrev q9y:=Nat->St->List (List Nat×List Nat)->(St->List (List Nat×List Nat)->Prop)->Prop
def jam(P:Program)(G:Tys)(ops:List Oper)(o:Oper)(ih:q9y):q9y:=λsl st acc K=>
 match st with
 | ⟨t0,h0⟩=>match q4k h0 sl with
  | some none=>match o.guard with
   | none=>q43 P G o ⟨t0,h0⟩ sl λv ms rh=>qb3 ⟨t0,h0⟩ o.dst v ms λst'=>q4c (sl+qbf o.op) λsl'=>ih sl' st' ((rh,ms.map (·.1))::acc) K
   | some (j,want)=>match q4k ops j with
    | some oj=>match oj.dst with
     | some d=>q6w t0 d λg=>match g with
      | .bool b=>N (q6v b
        (q6g t0 d (.bool true) λt=>match want with
         | true=>q43 P G o ⟨t,h0⟩ sl λv ms rh=>qb3 ⟨t,h0⟩ o.dst v ms λst'=>q4c (sl+qbf o.op) λsl'=>ih sl' st' ((rh,ms.map (·.1))::acc) K
         | false=>qb3 ⟨t,h0⟩ o.dst undef [] λst'=>q4c (sl+qbf o.op) λsl'=>ih sl' st' (([],[])::acc) K)
        (q6g t0 d (.bool false) λt=>match want with
         | false=>q43 P G o ⟨t,h0⟩ sl λv ms rh=>qb3 ⟨t,h0⟩ o.dst v ms λst'=>q4c (sl+qbf o.op) λsl'=>ih sl' st' ((rh,ms.map (·.1))::acc) K
         | true=>qb3 ⟨t,h0⟩ o.dst undef [] λst'=>q4c (sl+qbf o.op) λsl'=>ih sl' st' (([],[])::acc) K))
      | .tuple _=>qb3 ⟨t0,h0⟩ o.dst undef [] λst'=>q4c (sl+qbf o.op) λsl'=>ih sl' st' (([],[])::acc) K
      | _=>False
     | none=>False
    | none=>False
  | _=>False
noncomputable def wpR(P:Program)(G:Tys)(ops:List Oper)(os:List Oper):q9y:=
 List.rec (motive:=λ_=>q9y) (λ_ st acc K=>K st acc) (λo _ ih=>jam P G ops o ih) os
def App0N(cj:Chunk)(g m size bytes:Nat)(z:Value)(slot:Nat)(K:Value->Mz->Prop):Prop:=
 (∃v,Reads cj g true (m*size) v/\0<m/\m<=9223372036854775807/\m*bytes<=140737488355328/\∀cap,m<=cap->K (.slice (some ⟨slot,0,some 0⟩) m cap) [(slot,grown ⟨true,0,[]⟩ 0 m size v z cap)])\/(m=0/\K (.slice none 0 0) [])
def AppN(ci:Chunk)(k s l c:Nat)(cj:Chunk)(g m size bytes:Nat)(z:Value)(slot:Nat)(K:Value->Mz->Prop):Prop:=
 ∃v,Reads cj g true (m*size) v/\flatB v (m*size)=true/\l*size<=ci.n/\l+m<=9223372036854775807/\(l+m)*bytes<=140737488355328/\
  (l+m<=c->∃d,Writes ci (l*size) (m*size) v d/\K (.slice (some ⟨k,0,some s⟩) (l+m) c) [(k,d)])/\(c<l+m->∀cap,l+m<=cap->K (.slice (some ⟨slot,0,some 0⟩) (l+m) cap) [(slot,grown ci l m size v z cap)])
def q9z(A B:Prop):Prop:=A\/B
variable{A:Prop}
theorem N.alt{B:Prop}(h:A):N (q9z A B):=N.mk (.inl h)
theorem N.altP{B:Prop}(h:B):N (q9z A B):=N.mk (.inr h)
def q5x(P:Program)(G:Tys)(o:Oper)(st:St)(slot:Nat)(K:Value->Mz->Prop):Prop:=
 match o.op with
 | .call ⟨.builtin .append,⟨[x,y]⟩,⟨[t,t']⟩⟩=>match Nat.beq t t' with
  | true=>q3x x st λp=>q3x y st λq=>match q with
   | .slice (some ⟨j,g,some _⟩) m _=>q3y G t λ_ d=>match d with
    | .slice e=>q3y G e λei _=>match ei.zero with
     | some z=>match qai z&&flatB z ei.size&&Nat.ble 1 ei.size with
      | true=>q42 st.h j λcj=>match p with
       | .slice none 0 0=>N (App0N cj g m ei.size ei.bytes z slot K)
       | .slice (some ⟨k,0,some s⟩) l c=>q42 st.h k λci=>N (AppN ci k s l c cj g m ei.size ei.bytes z slot K)
       | .iface _ _=>N (EffAll P o st K)
       | _=>False
      | false=>False
     | none=>False
    | _=>False
   | .slice (some ⟨_,_,none⟩) _ _=>N (EffAll P o st K)
   | .slice none _ _=>N (EffAll P o st K)
   | .iface _ _=>N (EffAll P o st K)
   | _=>False
  | false=>False
 | .call ⟨.value f,xs,_⟩=>q3x f st λfv=>match fv with
  | .func (.func g) ⟨us⟩ ⟨cs⟩=>match us.all q4n&&cs.all q4n with
   | true=>q5c xs.toList st λvs=>q5d (us++vs++cs) λl=>N (q5u true P g l st.h slot λv ms _=>K v ms)
   | false=>False
  | _=>False
 | .range _ _=>N (EffAll P o st K)
 | .next _ _=>N (EffAll P o st K)
 | .convert _ _ (.const (.string _))=>N (EffAll P o st K)
 | .buildSlice _ _ _=>N (q9z (q43 P G o st slot λv ms _=>K v ms) (EffAll P o st K))
 | _=>q43 P G o st slot λv ms _=>K v ms
variable{K:Value->Mz->Prop}{P:Program}
theorem qhc{o:Oper}{f:Operand}{xs:Array Operand}{ts:Array TypeId}{g:FuncId}{us vs cs:List Value}{R:Value->Mz->Prop}(ho:o.op=.call ⟨.value f,xs,ts⟩)(hf:EvTo f st (.func (.func g) ⟨us⟩ ⟨cs⟩))(hu:us.all q4n=true)(hc:cs.all q4n=true)
  (hx:All2 (λx v=>EvTo x st v) xs.toList vs) (h:CallAll P g (us++vs++cs) st.h R) (hK:∀v ms,R v ms->K v ms):EffAll P o st K:=λX ρ a w Rl next Q hn=>by
 obtain⟨e1,d1,d2⟩:=(hf.den Rl).caps hu hc
 have d3:=qjg Rl xs.toList vs hx (λx hx u hu=>hu)
 have hk:=h X ρ w _ Rl.heap (qc5 (qc5 d1 d3) d2)
 have hrun:(execOp a.eval o).run P w=(callFunc g ⟨us.map (den0 ρ)++xs.toList.map a.eval++cs.map (den0 ρ)⟩).run P w:=Q1N
 unfold Oper.wp
 rw[hrun]
 rcases hk with ⟨x,w',hr,v,ms,ρ',hR,ha,hh,hd⟩|⟨hr,hcl⟩
 .rw[hr];exact hn v ms ρ' x w' (hK v ms hR) ⟨ha,hh,hd⟩
 .rw[hr];refine hcl.mono λe w' ⟨x,he,v,ms,ρ',hR,ha,hh,hd⟩=>?_
  subst he;exact hn v ms ρ' x w' (hK v ms hR) ⟨ha,hh,hd⟩
variable{rh:List Nat}
theorem EffAll.of{o:Oper}{v:Value}(h:OKs P o st v ms rh)(hK:K v ms):EffAll P o st K:=λX ρ a w R next Q hn=>
 h st (λ_ _ _ h=>h) (λ_ _=>rfl) (λ_ _=>rfl) X ρ a w R next Q λρ' x w' ha=>hn v ms ρ' x w' hK ha
variable{G:Tys}
theorem qrf{o:Oper}{slot:Nat}(hG:q32 P G)(hs:st.h[slot]?=some none)(h:q5x P G o st slot K):EffAll P o st K:=by
 unfold q5x at h;split at h
 .rename_i x y t t' ho;cases hb:Nat.beq t t' with
  | false=>rw[hb] at h;exact h.elim
  | true=>
   rw[hb] at h;obtain rfl:=xF hb;obtain⟨p,hp,h⟩:=qam h;obtain⟨q,hq,h⟩:=qam h;split at h
   .obtain⟨i,d,h1,h2,h⟩:=qak hG h;split at h
    .obtain⟨ei,ed,h3,h4,h⟩:=qak hG h;split at h
     .rename_i z hz;cases hc:qai z&&flatB z ei.size&&Nat.ble 1 ei.size with
      | false=>rw[hc] at h;exact h.elim
      | true=>
       rw[hc] at h;simp only[xi,yi] at hc;obtain⟨cj,hj,h⟩:=qa9 h;split at h
       .rcases N.out h with ⟨v,hr,hm,h63,hby,hk⟩|⟨rfl,hk⟩
        .exact qey ho hp hq h2 h3 hz hc.1.1 hc.1.2 hc.2 hj hr hm h63 hby hs hk
        .exact qeg ho hp hq h2 h3 hk
       .obtain⟨ci,hi,h⟩:=qa9 h;obtain⟨v,hr,hf,hln,h63,hby,ha,hk⟩:=N.out h;exact qis ho hp hq h2 h3 hz hc.1.1 hc.1.2 hc.2 hi hln hj hr hf h63 hby hs ha hk
       .exact N.out h
       .exact h.elim
     .exact h.elim
    .exact h.elim
   .exact N.out h
   .exact N.out h
   .exact N.out h
   .exact h.elim
 .rename_i f xs ts ho;obtain⟨v,hv,h⟩:=qam h;split at h
  .rename_i g us cs;cases hb:us.all q4n&&cs.all q4n with
   | true=>
    rw[hb] at h;simp only[xi] at hb;obtain⟨vs,hx,h⟩:=qc3 h;have h:=qc6 (K:=λl=>N (q5u true P g l st.h slot λv ms _=>K v ms)) h;rcases h.out with ⟨u,ms,rh,h1,h⟩|⟨_,R,h1,h⟩
    .exact EffAll.of (qq4 ho hv hb.1 hb.2 hx h1) h
    .exact qhc ho hv hb.1 hb.2 hx h1 h
   | false=>rw[hb] at h;exact h.elim
  .exact h.elim
 .exact N.out h
 .exact N.out h
 .exact N.out h
 .rcases N.out h with h|h
  .obtain⟨v,ms,rh,hok,hk⟩:=qfe hG hs h;exact EffAll.of hok hk
  .exact h
 .obtain⟨v,ms,rh,hok,hk⟩:=qfe hG hs h;exact EffAll.of hok hk
abbrev q90:=Nat->St->(St->Prop)->Prop
def jan(P:Program)(G:Tys)(ops:List Oper)(o:Oper)(ih:q90):q90:=λsl st K=>
 match st with
 | ⟨t0,h0⟩=>match q4k h0 sl with
  | some none=>match o.guard with
   | none=>q5x P G o ⟨t0,h0⟩ sl λv ms=>qb3 ⟨t0,h0⟩ o.dst v ms λst'=>q4c (sl+qbf o.op) λsl'=>ih sl' st' K
   | some (j,want)=>match q4k ops j with
    | some oj=>match oj.dst with
     | some d=>q6w t0 d λg=>match g with
      | .bool b=>N (q6v b
        (q6g t0 d (.bool true) λt=>match want with
         | true=>q5x P G o ⟨t,h0⟩ sl λv ms=>qb3 ⟨t,h0⟩ o.dst v ms λst'=>q4c (sl+qbf o.op) λsl'=>ih sl' st' K
         | false=>qb3 ⟨t,h0⟩ o.dst undef [] λst'=>q4c (sl+qbf o.op) λsl'=>ih sl' st' K)
        (q6g t0 d (.bool false) λt=>match want with
         | false=>q5x P G o ⟨t,h0⟩ sl λv ms=>qb3 ⟨t,h0⟩ o.dst v ms λst'=>q4c (sl+qbf o.op) λsl'=>ih sl' st' K
         | true=>qb3 ⟨t,h0⟩ o.dst undef [] λst'=>q4c (sl+qbf o.op) λsl'=>ih sl' st' K))
      | .tuple _=>qb3 ⟨t0,h0⟩ o.dst undef [] λst'=>q4c (sl+qbf o.op) λsl'=>ih sl' st' K
      | _=>False
     | none=>False
    | none=>False
  | _=>False
noncomputable def wpQ(P:Program)(G:Tys)(ops:List Oper)(os:List Oper):q90:=
 List.rec (motive:=λ_=>q90) (λ_ st K=>K st) (λo _ ih=>jan P G ops o ih) os
def OpRes(P:Program)(ops:List Oper)(o:Oper)(st:St)(r:Res):Prop:=
 match o.guard with
 | none=>OKs P o st r.v r.ms r.rh
 | some (j,want)=>∃oj d g,ops[j]?=some oj/\oj.dst=some d/\st.t[d]?=some (some g)/\((∃b,g=.bool b/\(b=want->OKs P o st r.v r.ms r.rh)/\(b≠want->r=⟨undef,[],[]⟩))\/((∃us,g=.tuple us)/\r=⟨undef,[],[]⟩))
def Trace(P:Program)(ops:List Oper):List Oper->St->List Res->St->Prop
 | [],st,rs,st'=>rs=[]/\st'=st
 | o::os,st,rs,st'=>∃r rs',rs=r::rs'/\OpRes P ops o st r/\Trace P ops os (st.after o.dst r.v r.ms) rs' st'
def feet(rs:List Res):List (List Nat×List Nat):=rs.map λr=>(r.rh,r.ms.map (·.1))
theorem qer{l:List (Option Value)}{d:Nat}{v:Value}(h:l[d]?=some (some v)):l.set d (some v)=l:=by
 apply xO;intro i;by_cases e:d=i
 .subst e;rw[xr (xe.1 h).1,h]
 .rw[xt e]
theorem qji{P:Program}{G:Tys}{ops:List Oper}(hG:q32 P G){K:St->List (List Nat×List Nat)->Prop}:∀{os:List Oper}{sl:Nat}{st:St}{acc:List (List Nat×List Nat)},wpR P G ops os sl st acc K->
  ∃rs st',Trace P ops os st rs st'/\K st' ((feet rs).reverse++acc)
 | [],sl,st,acc,h=>⟨[],st,⟨rfl,rfl⟩,h⟩
 | o::os,sl,⟨t0,h0⟩,acc,h=>by
  have h:jam P G ops o (wpR P G ops os) sl ⟨t0,h0⟩ acc K:=h;unfold jam at h;simp only at h;rw[qba] at h;split at h
  .rename_i hs;have run:∀{st0:St},st0=⟨t0,h0⟩->(q43 P G o st0 sl λv ms rh=>qb3 st0 o.dst v ms λst'=>q4c (sl+qbf o.op) λsl'=>wpR P G ops os sl' st' ((rh,ms.map (·.1))::acc) K)->
     ∃r rs st',OKs P o ⟨t0,h0⟩ r.v r.ms r.rh/\Trace P ops os (St.after ⟨t0,h0⟩ o.dst r.v r.ms) rs st'/\K st' ((feet (r::rs)).reverse++acc):=λ{st0} e h1=>by
    subst e
    obtain⟨v,ms,rh,hok,h2⟩:=qfe hG hs h1
    obtain⟨rs,st',ht,hk⟩:=qji hG (qbg (K:=λsl'=>wpR P G ops os sl' _ _ K) (qc1 h2))
    exact⟨⟨v,ms,rh⟩,rs,st',hok,ht,by simpa[feet] using hk⟩
   have skip:∀{st0:St},st0=⟨t0,h0⟩->(qb3 st0 o.dst undef [] λst'=>q4c (sl+qbf o.op) λsl'=>wpR P G ops os sl' st' (([],[])::acc) K)->
     ∃rs st',Trace P ops os (St.after ⟨t0,h0⟩ o.dst undef []) rs st'/\K st' ((feet (⟨undef,[],[]⟩::rs)).reverse++acc):=λ{st0} e h1=>by
    subst e
    obtain⟨rs,st',ht,hk⟩:=qji hG (qbg (K:=λsl'=>wpR P G ops os sl' _ _ K) (qc1 h1))
    exact⟨rs,st',ht,by simpa[feet] using hk⟩
   split at h
   .rename_i hg;obtain⟨r,rs,st',hok,ht,hk⟩:=run rfl h;exact⟨r::rs,st',⟨r,rs,rfl,by unfold OpRes;rw[hg];exact hok,ht⟩,hk⟩
   .rename_i j want hg;rw[qba] at h;split at h
    .rename_i oj hj;split at h
     .rename_i d hd;obtain⟨g,hgv,h⟩:=qcq h;split at h
      .rename_i b;have h:=h.out;cases b with
       | true=>
        have h:=qcr (K:=λt=>_) (h.1 rfl);rw[qer hgv] at h;cases want with
        | true=>
         obtain⟨r,rs,st',hok,ht,hk⟩:=run rfl h;exact⟨r::rs,st',⟨r,rs,rfl,by unfold OpRes;rw[hg];exact⟨oj,d,_,hj,hd,hgv,.inl ⟨true,rfl,λ_=>hok,λe=>absurd rfl e⟩⟩,ht⟩,hk⟩
        | false=>
         obtain⟨rs,st',ht,hk⟩:=skip rfl h;exact⟨_::rs,st',⟨⟨undef,[],[]⟩,rs,rfl,by unfold OpRes;rw[hg];exact⟨oj,d,_,hj,hd,hgv,.inl ⟨true,rfl,λe=>absurd e Q50,λ_=>rfl⟩⟩,ht⟩,hk⟩
       | false=>
        have h:=qcr (K:=λt=>_) (h.2 rfl);rw[qer hgv] at h;cases want with
        | false=>
         obtain⟨r,rs,st',hok,ht,hk⟩:=run rfl h;exact⟨r::rs,st',⟨r,rs,rfl,by unfold OpRes;rw[hg];exact⟨oj,d,_,hj,hd,hgv,.inl ⟨false,rfl,λ_=>hok,λe=>absurd rfl e⟩⟩,ht⟩,hk⟩
        | true=>
         obtain⟨rs,st',ht,hk⟩:=skip rfl h;exact⟨_::rs,st',⟨⟨undef,[],[]⟩,rs,rfl,by unfold OpRes;rw[hg];exact⟨oj,d,_,hj,hd,hgv,.inl ⟨false,rfl,λe=>absurd e Q50,λ_=>rfl⟩⟩,ht⟩,hk⟩
      .obtain⟨rs,st',ht,hk⟩:=skip rfl h;exact⟨_::rs,st',⟨⟨undef,[],[]⟩,rs,rfl,by unfold OpRes;rw[hg];exact⟨oj,d,_,hj,hd,hgv,.inr ⟨⟨_,rfl⟩,rfl⟩⟩,ht⟩,hk⟩
      .exact h.elim
     .exact h.elim
    .exact h.elim
  .exact h.elim
variable{X:Ctx}{ρ:Rz}{a:Act}{w:World}
theorem qdy{ρ':Rz}{w':World}{v x:Value}(R:Rel X ρ st a w)(h:After X ρ st v ms ρ' x w'):Rel X ρ' (st.after dst v ms) (a.put dst x) w':=by
 obtain⟨ha,hh,hd⟩:=h;have more:∀(i:Nat)(u:Value),st.t[i]?=some (some u)->∃y,a.tmps[i]?=some y/\Den (Fil (modH st.h ms)) ρ' u y:=λi u hi=>by
  obtain⟨y,hy,hyd⟩:=R.slot i u hi;exact⟨y,hy,hyd.more ha λ_ hF=>hF.mod⟩
 cases dst with
 | none=>exact⟨R.defers,R.size,more,hh⟩
 | some d=>
  refine⟨R.defers,by simp[Act.put,St.after,R.size],λi u hi=>?_,hh⟩;simp only[St.after,za] at hi;simp only[Act.put,yY];by_cases e:d=i
  .subst e;rw[if_pos rfl] at hi;by_cases hl:d<st.t.length
   .rw[if_pos hl] at hi;simp only[Option.some.injEq] at hi;subst hi;exact⟨x,by rw[if_pos rfl,if_pos (by rw[R.size];exact hl)],hd⟩
   .rw[if_neg hl] at hi;cases hi
  .rw[if_neg e] at hi;obtain⟨y,hy,hyd⟩:=more i u hi;exact⟨y,by rw[if_neg e];exact hy,hyd⟩
theorem OKs.here{o:Oper}{v:Value}(h:OKs P o st v ms rh):q6h P o st v ms:=h st (λ_ _ _ h=>h) (λ_ _=>rfl) (λ_ _=>rfl)
variable{Q:Exit->Act->World->Prop}{k:Nat}
theorem qxo{ops:Array Oper}{o:Oper}{r:Res}{next:Act->World->Prop}(hk:ops[k]?=some o)(h:OpRes P ops.toList o st r)(R:Rel X ρ st a w)
  (hn:∀ρ' a' w',Rel X ρ' (st.after o.dst r.v r.ms) a' w'->next a' w'):wpOp P ops Q k next a w:=by
 have go:OKs P o st r.v r.ms r.rh->o.wp P a w next Q:=λhok=>hok.here X ρ a w R next Q λρ' x w' ha=>hn ρ' _ w' (qdy R ha)
 have undef_den:∀F ρ,Den F ρ undef undef:=λF ρ r _=>by simp[undef,den]
 unfold wpOp
 rw[hk]
 simp only
 unfold OpRes at h
 cases hg:o.guard with
 | none=>
  rw[hg] at h;have hw:Region.wanted o (yielded ops a.tmps)=true:=by simp[Region.wanted,hg]
  rw[if_pos hw];exact .inl (go h)
 | some jw=>
  obtain⟨j,want⟩:=jw;rw[hg] at h;obtain⟨oj,d,g,hj,hd,hb,h12⟩:=h;obtain⟨y,hy,hyd⟩:=R.slot d _ hb;have hj':ops[j]?=some oj:=by simpa using hj
  have skip:¬ Region.wanted o (yielded ops a.tmps)=true->r=⟨undef,[],[]⟩->(if Region.wanted o (yielded ops a.tmps)=true then o.wp P a w next Q\/(o.asks P a w/\LetsOut Q) else next (a.put o.dst undef) w):=λhw hr=>by
   rw[if_neg hw];rw[hr] at hn;exact hn ρ _ w (qdy R ⟨AgreeOn.refl _ _,R.heap,undef_den _ _⟩)
  rcases h12 with ⟨b,rfl,h1,h2⟩|⟨⟨us,rfl⟩,hr⟩
  .have hyb:y=.bool b:=hyd.self.symm;have hyl:yielded ops a.tmps j=some b:=by simp[yielded,hj',hd,hy,hyb]
   by_cases e:b=want
   .have hw:Region.wanted o (yielded ops a.tmps)=true:=by simp[Region.wanted,hg,hyl,e]
    rw[if_pos hw];exact .inl (go (h1 e))
   .exact skip (by simp[Region.wanted,hg,hyl,e]) (h2 e)
  .have hyb:y=.tuple (us.map (den2 ρ)):=hyd.self.symm;have hyl:yielded ops a.tmps j=none:=by simp[yielded,hj',hd,hy,hyb]
   exact skip Q5l hr
theorem qrg{P:Program}{G:Tys}{ops:Array Oper}{Q:Exit->Act->World->Prop}{X:Ctx}(hG:q32 P G){K:St->Prop}(hq:∀s ρ a w,K s->Rel X ρ s a w->Q .normal a w):∀(os:List Oper)(sl k:Nat)(st:St),wpQ P G ops.toList os sl st K->(∀i,i<os.length->ops[k+i]?=os[i]?)->
  ∀ρ a w,Rel X ρ st a w->wpOps P ops Q (List.range' k os.length) a w
 | [],sl,k,st,h,_,ρ,a,w,R=>hq st ρ a w h R
 | o::os,sl,k,⟨t0,h0⟩,h,hi,ρ,a,w,R=>by
  have h:jan P G ops.toList o (wpQ P G ops.toList os) sl ⟨t0,h0⟩ K:=h;rw[yx,List.range'_succ,wpOps_cons];have hk:ops[k]?=some o:=by simpa using hi 0 Q50
  have rest:∀(st':St),(q4c (sl+qbf o.op) λsl'=>wpQ P G ops.toList os sl' st' K)->∀ρ a w,Rel X ρ st' a w->wpOps P ops Q (List.range' (k+1) os.length) a w:=λst' h' ρ a w R'=>by
   refine qrg hG hq os _ (k+1) st' (qbg (K:=λsl'=>wpQ P G ops.toList os sl' st' K) h') (λi hil=>?_) ρ a w R';have:=hi (i+1) (by simpa using hil);rw[show k+1+i=k+(i+1) by omega,this];simp
  unfold jan at h;simp only at h;rw[qba] at h;split at h
  .rename_i hs;have go:(q5x P G o ⟨t0,h0⟩ sl λv ms=>qb3 ⟨t0,h0⟩ o.dst v ms λst'=>q4c (sl+qbf o.op) λsl'=>wpQ P G ops.toList os sl' st' K)->Region.wanted o (yielded ops a.tmps)=true->
     wpOp P ops Q k (λa w=>wpOps P ops Q (List.range' (k+1) os.length) a w) a w:=λh1 hw=>by
    unfold wpOp
    rw[hk]
    simp only
    rw[if_pos hw]
    refine .inl (qrf hG hs h1 X ρ a w R _ Q λv ms ρ' x w' hk' ha=>?_)
    exact rest _ (qc1 hk') ρ' _ w' (qdy R ha)
   have undef_den:∀F ρ,Den F ρ undef undef:=λF ρ r _=>by simp[undef,den]
   have skip:(qb3 ⟨t0,h0⟩ o.dst undef [] λst'=>q4c (sl+qbf o.op) λsl'=>wpQ P G ops.toList os sl' st' K)->¬ Region.wanted o (yielded ops a.tmps)=true->
     wpOp P ops Q k (λa w=>wpOps P ops Q (List.range' (k+1) os.length) a w) a w:=λh1 hw=>by
    unfold wpOp
    rw[hk]
    simp only
    rw[if_neg hw]
    exact rest _ (qc1 h1) ρ _ w (qdy R ⟨AgreeOn.refl _ _,R.heap,undef_den _ _⟩)
   split at h
   .rename_i hg;exact go h (by simp[Region.wanted,hg])
   .rename_i j want hg;rw[qba] at h;split at h
    .rename_i oj hj;split at h
     .rename_i d hd;obtain⟨g,hgv,h⟩:=qcq h;obtain⟨y,hy,hyd⟩:=R.slot d _ hgv;have hj':ops[j]?=some oj:=by simpa using hj
      split at h
      .rename_i b;have hyb:y=.bool b:=hyd.self.symm;have hyl:yielded ops a.tmps j=some b:=by simp[yielded,hj',hd,hy,hyb]
       have h:=h.out;cases b with
       | true=>
        have h:=qcr (K:=λt=>_) (h.1 rfl);rw[qer hgv] at h;cases want with
        | true=>exact go h Q5l
        | false=>exact skip h Q5l
       | false=>
        have h:=qcr (K:=λt=>_) (h.2 rfl);rw[qer hgv] at h;cases want with
        | false=>exact go h Q5l
        | true=>exact skip h Q5l
      .rename_i us;have hyb:y=.tuple (us.map (den2 ρ)):=hyd.self.symm;have hyl:yielded ops a.tmps j=none:=by simp[yielded,hj',hd,hy,hyb]
       exact skip h Q5l
      .exact h.elim
     .exact h.elim
    .exact h.elim
  .exact h.elim
structure Eff where
 dst:Option Tmp
 v:Value
 ms:Mz
def cur(D:Nat->Bool):Nat->List Eff->St->St
 | _,[],st=>st
 | k,e::es,st=>cur D (k+1) es (match D k with
  | true=>st.after e.dst e.v e.ms
  | false=>st)
def q4o:List Oper->List Res->List Eff
 | o::os,r::rs=>⟨o.dst,r.v,r.ms⟩::q4o os rs
 | _,_=>[]
structure q7h{α:Type}(f:St->α)(W:Eff->Prop):Prop where
 keep:∀(st:St)(e:Eff),¬ W e->f (st.after e.dst e.v e.ms)=f st
 same:∀(st st':St)(e:Eff),f st=f st'->f (st.after e.dst e.v e.ms)=f (st'.after e.dst e.v e.ms)
theorem qff(i:Nat):q7h (λst:St=>st.t[i]?) (λe=>e.dst=some i):=by
 refine⟨λst e h=>?_,λst st' e h=>?_⟩
 .obtain⟨d,v,ms⟩:=e;cases d with
  | none=>rfl
  | some d=>
   have:d≠i:=λe=>h (by rw[e])
   show(st.t.set d (some v))[i]?=_;rw[xt this]
 .obtain⟨d,v,ms⟩:=e;cases d with
  | none=>exact h
  | some d=>
   show(st.t.set d (some v))[i]?=(st'.t.set d (some v))[i]?;have h:st.t[i]?=st'.t[i]?:=h;by_cases e:d=i
   .subst e;rw[za,za,if_pos rfl,if_pos rfl];by_cases hl:d<st.t.length
    .have:d<st'.t.length:=by
      rw[xn hl] at h;exact(xe.1 h.symm).1
     rw[if_pos hl,if_pos this]
    .have:¬ d<st'.t.length:=λhl'=>by
      rw[xn hl'] at h;exact hl (xe.1 h).1
     rw[if_neg hl,if_neg this]
   .rw[xt e,xt e,h]
theorem qbt{i:Nat}:∀{ms:Mz}{h:Hp},i∉ms.map (·.1)->(modH h ms)[i]?=h[i]?
 | [],_,_=>rfl
 | (j,c)::ms,h,hn=>by
  simp only[xk,xf,not_or] at hn;simp only[modH];rw[qbt hn.2,xt (λe=>hn.1 e.symm)]
theorem qfg{i:Nat}:∀{ms:Mz}{h h':Hp},h[i]?=h'[i]?->(modH h ms)[i]?=(modH h' ms)[i]?
 | [],_,_,e=>e
 | (j,c)::ms,h,h',e=>by
  simp only[modH];refine qfg ?_;by_cases ej:j=i
  .subst ej;rw[za,za,if_pos rfl,if_pos rfl];by_cases hl:j<h.length
   .have:j<h'.length:=by
     rw[xn hl] at e;exact(xe.1 e.symm).1
    rw[if_pos hl,if_pos this]
   .have:¬ j<h'.length:=λhl'=>by
     rw[xn hl'] at e;exact hl (xe.1 e).1
    rw[if_neg hl,if_neg this]
  .rw[xt ej,xt ej,e]
theorem qez(i:Nat):q7h (λst:St=>st.h[i]?) (λe=>i∈e.ms.map (·.1)):=
 ⟨λst e h=>qbt h,λst st' e h=>qfg h⟩
theorem qbh{α:Type}{f:St->α}{W:Eff->Prop}(hp:q7h f W){D D':Nat->Bool}:∀(es:List Eff)(k:Nat)(st st':St),(∀i e,es[i]?=some e->W e->D (k+i)=D' (k+i))->f st=f st'->f (cur D k es st)=f (cur D' k es st')
 | [],_,_,_,_,h=>h
 | e::es,k,st,st',hd,h=>by
  simp only[cur];refine qbh hp es (k+1) _ _ (λi e' he hw=>?_) ?_
  .have:=hd (i+1) e' (by simpa using he) hw;exact Q2t
  .by_cases hw:W e
   .have h0:=hd 0 e rfl hw;rw[yo] at h0;rw[h0];cases D' k with
    | true=>exact hp.same _ _ e h
    | false=>exact h
   .have h1:∀b:Bool,∀s:St,f (match b with|true=>s.after e.dst e.v e.ms|false=>s)=f s:=λb s=>by
     cases b with
     | true=>exact hp.keep _ e hw
     | false=>rfl
    rw[h1,h1,h]
theorem qdg{D:Nat->Bool}:∀(es:List Eff)(k:Nat)(st:St),(∀i,i<es.length->D (k+i)=false)->cur D k es st=st
 | [],_,_,_=>rfl
 | e::es,k,st,h=>by
  simp only[cur];have:=h 0 Q50;rw[yo] at this;rw[this];exact qdg es (k+1) st λi hi=>by
   have:=h (i+1) Q59;exact Q2t
theorem qhd{α:Type}{f:St->α}{W:Eff->Prop}(hp:q7h f W){D:Nat->Bool}{k0:Nat}{e0:Eff}:∀(es:List Eff)(k:Nat)(st:St),k<=k0->es[k0-k]?=some e0->D k0=false->(W e0->∀i e,es[i]?=some e->k0<k+i->W e->D (k+i)=false)->
  f (cur (λj=>decide (j=k0)||D j) k es st)=f ((cur D k es st).after e0.dst e0.v e0.ms)
 | [],k,st,hk,he,hd,hw=>by simp at he
 | e::es,k,st,hk,he,hd,hw=>by
  simp only[cur];by_cases hkk:k=k0
  .subst hkk;rw[Nat.sub_self] at he;simp only[yn,Option.some.injEq] at he;subst he;simp only[decide_true,Bool.true_or,hd];have h1:f (cur (λj=>decide (j=k)||D j) (k+1) es (st.after e.dst e.v e.ms))=f (cur D (k+1) es (st.after e.dst e.v e.ms)):=
    qbh hp es (k+1) _ _ (λi e' he' hw'=>by
     have:decide (k+1+i=k)=false:=by simp;omega
     simp only[this,Bool.false_or]) rfl
   rw[h1];by_cases hwe:W e
   .have hno:∀i e',es[i]?=some e'->W e'->D (k+1+i)=false:=λi e' he' hw'=>by
     have:=hw hwe (i+1) e' (by simpa using he') Q4P hw';exact Q2t
    have h2:f (cur D (k+1) es (st.after e.dst e.v e.ms))=f (st.after e.dst e.v e.ms):=
     (qbh hp (D':=λ_=>false) es (k+1) _ _ (λi e' he' hw'=>hno i e' he' hw') rfl).trans (by rw[qdg es (k+1) _ (λ_ _=>rfl)])
    have h3:f (cur D (k+1) es st)=f st:=
     (qbh hp (D':=λ_=>false) es (k+1) _ _ (λi e' he' hw'=>hno i e' he' hw') rfl).trans (by rw[qdg es (k+1) _ (λ_ _=>rfl)])
    rw[h2];exact hp.same _ _ e h3.symm
   .rw[hp.keep _ e hwe];exact qbh hp es (k+1) _ _ (λ_ _ _ _=>rfl) (hp.keep _ e hwe)
  .have:decide (k=k0)=false:=by simpa using hkk
   simp only[this,Bool.false_or];exact qhd hp es (k+1) _ Q4P (by
    rw[show k0-k=(k0-(k+1))+1 by omega] at he;simpa using he) hd (λhwe i e' he' hlt hw'=>by
     have:=hw hwe (i+1) e' (by simpa using he') Q4P hw';rwa[show k+(i+1)=k+1+i by omega] at this)
theorem St.ext'{a b:St}(h1:∀i:Nat,a.t[i]?=b.t[i]?)(h2:∀i:Nat,a.h[i]?=b.h[i]?):a=b:=by
 obtain⟨t,h⟩:=a;obtain⟨t',h'⟩:=b;have e1:t=t':=xO h1;have e2:h=h':=xO h2;rw[e1,e2]
theorem qle{P:Program}{ops:List Oper}:∀{os:List Oper}{st st':St}{rs:List Res},Trace P ops os st rs st'->rs.length=os.length
 | [],_,_,_,h=>by rw[h.1];rfl
 | o::os,_,_,_,h=>by obtain⟨r,rs',rfl,_,h⟩:=h;simp[qle h]
theorem qjj:∀{os:List Oper}{rs:List Res}{k:Nat}{o:Oper}{r:Res},os[k]?=some o->rs[k]?=some r->(q4o os rs)[k]?=some ⟨o.dst,r.v,r.ms⟩
 | o'::os,r'::rs,0,o,r,h1,h2=>by simp at h1 h2;subst h1 h2;rfl
 | o'::os,r'::rs,k+1,o,r,h1,h2=>by simpa[q4o] using qjj (os:=os) (rs:=rs) (k:=k) (by simpa using h1) (by simpa using h2)
 | [],_,_,_,_,h1,_=>by simp at h1
 | _::_,[],_,_,_,_,h2=>by simp at h2
theorem qn8:∀{os:List Oper}{rs:List Res},rs.length=os.length->(q4o os rs).length=os.length
 | [],[],_=>rfl
 | o::os,r::rs,h=>by simp[q4o,qn8 (os:=os) (rs:=rs) Q5J]
 | [],_::_,h=>by simp at h
 | _::_,[],h=>by simp at h
theorem qn9{P:Program}{ops:List Oper}:∀{os:List Oper}{st st':St}{rs:List Res}{k0:Nat},Trace P ops os st rs st'->∀k o,os[k]?=some o->∃r,rs[k]?=some r/\OpRes P ops o (cur (λj=>decide (j<k0+k)) k0 (q4o os rs) st) r
 | [],_,_,_,_,_,k,o,h=>by simp at h
 | o'::os,st,st',rs,k0,h,k,o,ho=>by
  obtain⟨r,rs',rfl,h1,h2⟩:=h;cases k with
  | zero=>
   simp only[yn,Option.some.injEq] at ho;subst ho;refine⟨r,rfl,?_⟩;rw[qdg _ k0 st (λi _=>by simp)];exact h1
  | succ k=>
   obtain⟨r',hr,hres⟩:=qn9 (k0:=k0+1) h2 k o (by simpa using ho);refine⟨r',by simpa using hr,?_⟩;have e:decide (k0<k0+(k+1))=true:=by simp
   simp only[q4o,cur,e];rw[show k0+(k+1)=k0+1+k by omega];exact hres
theorem qlf{P:Program}{ops:List Oper}:∀{os:List Oper}{st st':St}{rs:List Res}{k0:Nat},Trace P ops os st rs st'->cur (λ_=>true) k0 (q4o os rs) st=st'
 | [],_,_,_,_,h=>by obtain⟨rfl,rfl⟩:=h;rfl
 | o'::os,st,st',rs,k0,h=>by
  obtain⟨r,rs',rfl,h1,h2⟩:=h;simp only[q4o,cur];exact qlf h2
def qlg(x:Operand):List Nat:=
 match x with
 | .tmp t=>[t]
 | _=>[]
def qdh(ops:List Oper)(o:Oper):List Nat:=
 o.op.operands.toList.flatMap qlg++(match o.guard with
  | some (j,_)=>match q4k ops j with
   | some oj=>oj.dst.toList
   | none=>[]
  | none=>[])
def q7t(a b:List Nat):Bool:=a.all λx=>b.all λy=>!(Nat.beq x y)
structure q8f where
 rt:List Nat
 wt:List Nat
 rh:List Nat
 wh:List Nat
 m:Nat
def q4m(f g:q8f):Bool:=q7t f.wt g.rt&&q7t f.wt g.wt&&q7t g.wt f.rt&&q7t f.wh g.rh&&q7t f.wh g.wh&&q7t g.wh f.rh
def qe0(o:Oper)(acc:List Nat):Nat:=o.after.toList.foldl (λs e=>match Region.binds .any e with
 | true=>s ||| 2^e.on ||| (match q4k acc e.on with
  | some m=>m
  | none=>0)
 | false=>s) 0
def qlh(ops:List Oper)(o:Oper)(f:List Nat×List Nat)(acc:List Nat):q8f:=⟨qdh ops o,o.dst.toList,f.1,f.2,qe0 o acc⟩
def q60(ops:List Oper):List Oper->List (List Nat×List Nat)->Nat->List Nat->List (Nat×q8f)->Bool
 | o::os,f::fs,j,acc,prev=>
  let g:=qlh ops o f acc
  prev.all (λp=>Nat.testBit g.m p.1||q4m p.2 g)&&q60 ops os fs (j+1) (acc++[g.m]) (prev++[(j,g)])
 | [],[],_,_,_=>true
 | _,_,_,_,_=>false
def qli(ops:List Oper)(fs:List (List Nat×List Nat)):Bool:=q60 ops ops fs 0 [] []
def masks:List Oper->List Nat->List Nat
 | [],acc=>acc
 | o::os,acc=>masks os (acc++[qe0 o acc])
theorem qcg:∀(os:List Oper)(acc:List Nat)(i:Nat),i<acc.length->(masks os acc)[i]?=acc[i]?
 | [],_,_,_=>rfl
 | o::os,acc,i,h=>by rw[masks,qcg os _ i Q5q,yR h]
theorem qjk{ops:List Oper}:∀{os:List Oper}{fs:List (List Nat×List Nat)}{j:Nat}{acc:List Nat}{prev:List (Nat×q8f)},q60 ops os fs j acc prev=true->acc.length=j->
  ∀k o f,os[k]?=some o->fs[k]?=some f->∃m,(masks os acc)[j+k]?=some m/\m=qe0 o ((masks os acc).take (j+k))/\
   (∀p∈prev,Nat.testBit m p.1=true\/q4m p.2 ⟨qdh ops o,o.dst.toList,f.1,f.2,m⟩=true)/\
   ∀i o' f',i<k->os[i]?=some o'->fs[i]?=some f'->∃m',Nat.testBit m (j+i)=true\/q4m ⟨qdh ops o',o'.dst.toList,f'.1,f'.2,m'⟩ ⟨qdh ops o,o.dst.toList,f.1,f.2,m⟩=true
 | [],fs,j,acc,prev,h,hl,k,o,f,ho,hf=>by simp at ho
 | o0::os,[],j,acc,prev,h,hl,k,o,f,ho,hf=>by simp at hf
 | o0::os,f0::fs,j,acc,prev,h,hl,k,o,f,ho,hf=>by
  simp only[q60,xi] at h;obtain⟨h1,h2⟩:=h;have hm0:(masks (o0::os) acc)[j]?=some (qe0 o0 acc):=by
   rw[masks,qcg os _ j Q5q,yF Q4P,hl,Nat.sub_self];rfl
  have htake:(masks (o0::os) acc).take j=acc:=by
   apply xO;intro i;rw[zc];by_cases hi:i<j
   .exact Q2q
   .rw[if_neg hi,yA Q4P]
  cases k with
  | zero=>
   simp only[yn,Option.some.injEq] at ho hf;subst ho hf;refine⟨qe0 o0 acc,by simpa using hm0,by rw[yo,htake],λp hp=>?_,λi _ _ hi=>absurd hi Q4P⟩;have:=xJ.1 h1 p hp;simpa[qlh] using this
  | succ k=>
   obtain⟨m,g1,g2,g3,g4⟩:=qjk h2 (by simp[hl]) k o f (by simpa using ho) (by simpa using hf);have e:j+1+k=j+(k+1):=by omega
   have em:masks os (acc++[(qlh ops o0 f0 acc).m])=masks (o0::os) acc:=rfl;rw[em,e] at g1 g2;refine⟨m,g1,g2,λp hp=>g3 p (by simp[hp]),λi o' f' hi ho' hf'=>?_⟩;cases i with
   | zero=>
    simp only[yn,Option.some.injEq] at ho' hf';subst ho' hf';have:=g3 (j,qlh ops o0 f0 acc) Q50;exact⟨qe0 o0 acc,by simpa[qlh] using this⟩
   | succ i=>
    obtain⟨m',h'⟩:=g4 i o' f' Q4P (by simpa using ho') (by simpa using hf');rw[show j+1+i=j+(i+1) by omega] at h';exact⟨m',h'⟩
theorem qlj(acc:List Nat)(i:Nat):∀(es:List Edge)(s:Nat),(es.foldl (λs e=>match Region.binds .any e with
  | true=>s ||| 2^e.on ||| (match q4k acc e.on with
   | some m=>m
   | none=>0)
  | false=>s) s).testBit i=true->s.testBit i=true\/∃e∈es,Region.binds .any e=true/\(e.on=i\/∃m,acc[e.on]?=some m/\m.testBit i=true)
 | [],s,h=>.inl h
 | e::es,s,h=>by
  rw[List.foldl_cons] at h;rcases qlj acc i es _ h with h|⟨e',he,hb,h⟩
  .cases hb:Region.binds .any e with
   | false=>rw[hb] at h;exact .inl h
   | true=>
    rw[hb] at h;simp only[Nat.testBit_or,yE] at h;rcases h with (h|h)|h
    .exact .inl h
    .refine .inr ⟨e,by simp,hb,.inl ?_⟩;rw[Nat.testBit_two_pow] at h;simpa using h
    .refine .inr ⟨e,by simp,hb,.inr ?_⟩;rw[qba] at h;cases hm:acc[e.on]? with
     | none=>rw[hm] at h;simp at h
     | some m=>rw[hm] at h;exact⟨m,rfl,h⟩
  .exact .inr ⟨e',by simp[he],hb,h⟩
variable{i:Nat}
theorem qoa{o:Oper}{acc:List Nat}(h:(qe0 o acc).testBit i=true):∃e∈o.after.toList,Region.binds .any e=true/\(e.on=i\/∃m,acc[e.on]?=some m/\m.testBit i=true):=by
 rcases qlj acc i o.after.toList 0 h with h|h
 .simp at h
 .exact h
theorem qbe{a b:List Nat}(h:q7t a b=true){x:Nat}(ha:x∈a):x∉b:=λhb=>by
 have:=xJ.1 (xJ.1 h x ha) x hb;simp at this
theorem qob{x:Operand}{st₂:St}{u:Value}(h:∀t∈qlg x,st₂.t[t]?=st.t[t]?)(hx:EvTo x st u):EvTo x st₂ u:=by
 cases x with
 | tmp t=>exact(h t (by simp[qlg])).trans hx
 | _=>exact hx
theorem OKs.move{o:Oper}{st₂:St}{v:Value}(h:OKs P o st v ms rh)(ht:∀x∈o.op.operands.toList,∀t∈qlg x,st₂.t[t]?=st.t[t]?)(hr:∀i∈rh,st₂.h[i]?=st.h[i]?)(hm:∀i∈ms.map (·.1),st₂.h[i]?=st.h[i]?):OKs P o st₂ v ms rh:=
 λst₃ h1 h2 h3=>h st₃ (λx hx u hu=>h1 x hx u (qob (ht x hx) hu)) (λi hi=>(h2 i hi).trans (hr i hi)) (λm hm'=>(h3 m hm').trans (hm m.1 (xx.2 ⟨m,hm',rfl⟩)))
variable{ops:List Oper}
theorem OpRes.move{o:Oper}{st₂:St}{r:Res}(h:OpRes P ops o st r)(ht:∀t∈qdh ops o,st₂.t[t]?=st.t[t]?)(hr:∀i∈r.rh,st₂.h[i]?=st.h[i]?)(hm:∀i∈r.ms.map (·.1),st₂.h[i]?=st.h[i]?):OpRes P ops o st₂ r:=by
 have hops:∀x∈o.op.operands.toList,∀t∈qlg x,st₂.t[t]?=st.t[t]?:=λx hx t htx=>ht t (by
  unfold qdh;exact List.mem_append_left _ (List.mem_flatMap.2 ⟨x,hx,htx⟩))
 unfold OpRes at *;cases hg:o.guard with
 | none=>rw[hg] at h;exact h.move hops hr hm
 | some jw=>
  obtain⟨j,want⟩:=jw;rw[hg] at h;obtain⟨oj,d,g,hj,hd,hb,h12⟩:=h;refine⟨oj,d,g,hj,hd,?_,h12.imp (fun⟨b,e,h1,h2⟩=>⟨b,e,λe=>(h1 e).move hops hr hm,h2⟩) id⟩;rw[ht d ?_,hb];unfold qdh;apply zd;rw[hg];simp only;rw[qba,hj];simp[hd]
def qbs:List Oper->Nat->Bool
 | [],_=>true
 | o::os,j=>o.after.toList.all (λe=>!(Region.binds .any e)||Nat.ble (e.on+1) j)&&qbs os (j+1)
theorem qeh:∀{os:List Oper}{j:Nat},qbs os j=true->∀k o,os[k]?=some o->∀e∈o.after.toList,Region.binds .any e=true->e.on<j+k
 | [],_,_,k,o,h,_,_,_=>by simp at h
 | o'::os,j,h,k,o,ho,e,he,hb=>by
  simp only[qbs,xi] at h;cases k with
  | zero=>
   simp only[yn,Option.some.injEq] at ho;subst ho;have:=xJ.1 h.1 e he;rw[hb] at this;have:=yD (by simpa using this);omega
  | succ k=>
   have:=qeh h.2 k o (by simpa using ho) e he hb;omega
section
variable{P:Program}{ops:Array Oper}{Q:Exit->Act->World->Prop}{X:Ctx}{st st':St}{rs:List Res}
theorem qhe{D:Nat->Bool}(hcl:∀(j:Nat)(o:Oper),ops.toList[j]?=some o->D j=true->∀e∈o.after.toList,Region.binds .any e=true->D e.on=true)(fs:List (List Nat×List Nat))(hlen:fs.length=ops.toList.length)(hc:qli ops.toList fs=true)(he:qbs ops.toList 0=true):
  ∀(j:Nat)(o:Oper)(m i:Nat),ops.toList[j]?=some o->(masks ops.toList [])[j]?=some m->m.testBit i=true->(∀e∈o.after.toList,Region.binds .any e=true->D e.on=true)->D i=true:=by
 intro j
 induction j using Nat.strongRecOn with
 | _ j ih=>
  intro o m i ho hm hb hedges;have hjl:j<fs.length:=by rw[hlen];exact(xe.1 ho).1
  obtain⟨m',g1,g2,_,_⟩:=qjk hc rfl j o fs[j] ho (xn hjl);rw[xl] at g1 g2;rw[hm] at g1;simp only[Option.some.injEq] at g1;subst g1;rw[g2] at hb;obtain⟨e,hee,hbe,h⟩:=qoa hb;have hD:=hedges e hee hbe;rcases h with h|⟨m2,hm2,hb2⟩
  .rwa[<-h]
  .have hlt:=qeh he j o ho e hee hbe;rw[xl] at hlt;rw[zc,if_pos hlt] at hm2;have hol:e.on<ops.toList.length:=xM hlt (xe.1 ho).1;exact ih e.on hlt ops.toList[e.on] m2 i (xn hol) hm2 hb2 (hcl e.on _ (xn hol) hD)
theorem qy5(ht:Trace P ops.toList ops.toList st rs st')(hc:qli ops.toList (feet rs)=true)(he:qbs ops.toList 0=true)(hq:∀ρ a w,Rel X ρ st' a w->Q .normal a w):
  ∀(fuel:Nat)(S:List Nat)(listed:Array Bool),S.length=fuel->S.Nodup->listed.size=ops.size->(∀i,i<ops.size->(listed.getD i false=true↔i∉S))->(∀i∈S,i<ops.size)->
   (∀(j:Nat)(o:Oper),ops.toList[j]?=some o->listed.getD j false=true->∀e∈o.after.toList,Region.binds .any e=true->listed.getD e.on false=true)->
   ∀ρ a w,Rel X ρ (cur (λj=>listed.getD j false) 0 (q4o ops.toList rs) st) a w->wpAny P .any ops Q fuel listed a w:=by
 have hlen:=qle ht
 have hfl:(feet rs).length=ops.toList.length:=by simp[feet,hlen]
 have hel:=qn8 hlen
 have fin:∀(listed:Array Bool),(∀i,i<ops.size->listed.getD i false=true)->∀ρ a w,Rel X ρ (cur (λj=>listed.getD j false) 0 (q4o ops.toList rs) st) a w->Q .normal a w:=by
  intro listed hall ρ a w R;refine hq ρ a w ?_;have hD:∀{α:Type}{f:St->α}{W:Eff->Prop},q7h f W->f (cur (λj=>listed.getD j false) 0 (q4o ops.toList rs) st)=f st':=λhp=>by
   rw[qbh hp (D':=λ_=>true) (q4o ops.toList rs) 0 st st (λi e hi _=>by
    rw[xl];exact hall i (by have:=(xe.1 hi).1;rw[hel] at this;simpa using this)) rfl,qlf ht]
  rw[<-St.ext' (λi=>hD (qff i)) (λi=>hD (qez i))];exact R
 have noready:∀(listed:Array Bool),listed.size=ops.size->Region.ready .any ops listed=[]->∀i,i<ops.size->listed.getD i false=true:=by
  intro listed hsz hr i
  induction i using Nat.strongRecOn with
  | _ i ih=>
   intro hi;cases hl:listed.getD i false with
   | true=>rfl
   | false=>
    exfalso;have hi':i<ops.toList.length:=by simpa using hi
    exact Q0F
 intro fuel
 induction fuel with
 | zero=>
  intro S listed hS hnd hsz hdS hlt hcl ρ a w R;have hS0:S=[]:=yG.1 hS;subst hS0;have hall:∀i,i<ops.size->listed.getD i false=true:=λi hi=>(hdS i hi).2 Q50
  refine⟨?_,fin listed hall ρ a w R⟩;apply List.eq_nil_iff_forall_not_mem.2;intro j hj;obtain⟨h0,o,ho,_⟩:=mem_ready.1 hj;have hjl:j<ops.size:=(xI.1 ho).1;have:=hall j hjl;have hjs:j<listed.size:=by omega
  simp[xY,yQ hjs] at h0 this;rw[h0] at this;cases this
 | succ fuel ih=>
  intro S listed hS hnd hsz hdS hlt hcl ρ a w R;refine⟨λhr=>fin listed (noready listed hsz hr) ρ a w R,λi hi=>?_⟩;obtain⟨h0,o,ho,hready⟩:=mem_ready.1 hi;have hil:i<ops.size:=(xI.1 ho).1;have his:i<listed.size:=by omega
  have hol:ops.toList[i]?=some o:=by simpa using ho
  have hDi:listed.getD i false=false:=Q2m;have hiS:i∈S:=by
   rcases Classical.em (i∈S) with h|h
   .exact h
   .have:=(hdS i hil).2 h;rw[hDi] at this;cases this
  obtain⟨r,hr,hres⟩:=qn9 (k0:=0) ht i o hol;rw[xl] at hres;have hei:=qjj hol hr;have hfi:(feet rs)[i]?=some (r.rh,r.ms.map (·.1)):=by simp[feet,hr]
  obtain⟨m,g1,g2,_,g4⟩:=qjk hc rfl i o _ hol hfi;rw[xl] at g1 g2;have hmi:∀q,m.testBit q=true->listed.getD q false=true:=λq hq'=>
   qhe (D:=λj=>listed.getD j false) hcl (feet rs) hfl hc he i o m q hol g1 hq' (λe hee hb=>hready e Q5W hb)
  have indepW:∀(j:Nat)(e:Eff),(q4o ops.toList rs)[j]?=some e->(listed.getD j false=true↔¬ j<i)->j≠i->
    ∃oj rj,ops.toList[j]?=some oj/\rs[j]?=some rj/\e=⟨oj.dst,rj.v,rj.ms⟩/\
     (∀d,oj.dst=some d->d∉qdh ops.toList o/\o.dst≠some d)/\(∀q,q∈rj.ms.map (·.1)->q∉r.rh/\q∉r.ms.map (·.1)):=by
   intro j e hje hD hne
   have hjl:j<ops.toList.length:=by have:=(xe.1 hje).1;rwa[hel] at this
   have hjr:j<rs.length:=by omega
   obtain⟨oj,hoj⟩:∃oj,ops.toList[j]?=some oj:=⟨_,xn hjl⟩
   obtain⟨rj,hrj⟩:∃rj,rs[j]?=some rj:=⟨_,xn hjr⟩
   have hee:=qjj hoj hrj
   rw[hje] at hee
   simp only[Option.some.injEq] at hee
   refine⟨_,_,hoj,hrj,hee,?_⟩
   have hfj:(feet rs)[j]?=some (rj.rh,rj.ms.map (·.1)):=by simp[feet,hrj]
   rcases yc j i with hji|hji
   ·-- ahead in the text and not yet done: no edge binds
    have hDj:listed.getD j false=false:=by
     cases h:listed.getD j false with
     | false=>rfl
     | true=>exact absurd hji (hD.1 h)
    obtain⟨m',h⟩:=g4 j _ _ hji hoj hfj;rw[xl] at h;rcases h with h|h
    .have:=hmi j h;rw[hDj] at this;cases this
    .simp only[q4m,xi] at h;obtain⟨⟨⟨⟨⟨h1,h2⟩,h3⟩,h4⟩,h5⟩,h6⟩:=h;refine⟨λd hd=>⟨qbe h1 (by simp[hd]),λe=>?_⟩,λq hq=>⟨qbe h4 hq,qbe h5 hq⟩⟩;exact qbe h2 (x:=d) (by simp[hd]) (by simp[e])
   .have hDj:listed.getD j false=true:=hD.2 Q4P;obtain⟨mj,k1,k2,_,k4⟩:=qjk hc rfl j _ _ hoj hfj;rw[xl] at k1 k2;obtain⟨m',h⟩:=k4 i o _ Q4P hol hfi;rw[xl] at h;rcases h with h|h
    .have:=qhe (D:=λj=>listed.getD j false) hcl (feet rs) hfl hc he j _ mj i hoj k1 h (λe hee hb=>hcl j _ hoj hDj e hee hb);rw[hDi] at this;cases this
    .simp only[q4m,xi] at h;obtain⟨⟨⟨⟨⟨h1,h2⟩,h3⟩,h4⟩,h5⟩,h6⟩:=h;refine⟨λd hd=>⟨qbe h3 (by simp[hd]),λe=>?_⟩,λq hq=>⟨qbe h6 hq,λhq2=>qbe h5 hq2 hq⟩⟩;exact qbe h2 (x:=d) (by simp[e]) (by simp[hd])
  have agree:∀{α:Type}{f:St->α}{W:Eff->Prop},q7h f W->(∀(j:Nat)(e:Eff),(q4o ops.toList rs)[j]?=some e->(listed.getD j false=true↔¬ j<i)->j≠i->¬ W e)->(¬ (listed.getD i false=true↔¬ i<i))->
    f (cur (λj=>listed.getD j false) 0 (q4o ops.toList rs) st)=f (cur (λj=>decide (j<i)) 0 (q4o ops.toList rs) st):=λhp hw _=>by
   refine qbh hp _ 0 st st (λj e hje hwe=>?_) rfl
   rw[xl]
   by_cases hji:j=i
   .subst hji;simpa using hDi
   .by_cases hD:(listed.getD j false=true↔¬ j<i)
    .exact absurd hwe (hw j e hje hD hji)
    .cases h:listed.getD j false with
     | true=>
      have:j<i:=by
       rcases yc j i with h'|h'
       .exact h'
       .exact absurd ⟨λ_=>by omega,λ_=>h⟩ hD
      simp[this]
     | false=>
      have:¬ j<i:=λh'=>hD ⟨λe=>(by rw[h] at e;cases e),λe=>absurd h' e⟩
      simp[this]
  have hii:¬ (listed.getD i false=true↔¬ i<i):=λh=>by
   have:=h.2 Q4P;rw[hDi] at this;cases this
  have hres':OpRes P ops.toList o (cur (λj=>listed.getD j false) 0 (q4o ops.toList rs) st) r:=by
   refine hres.move (λt htr=>?_) (λq hq'=>?_) (λq hq'=>?_)
   .exact agree (qff t) (λj e hje hD hne hwe=>by
     obtain⟨oj,rj,_,_,rfl,h1,_⟩:=indepW j e hje hD hne;exact(h1 t hwe).1 htr) hii
   .exact agree (qez q) (λj e hje hD hne hwe=>by
     obtain⟨oj,rj,_,_,rfl,_,h2⟩:=indepW j e hje hD hne;exact(h2 q hwe).1 hq') hii
   .exact agree (qez q) (λj e hje hD hne hwe=>by
     obtain⟨oj,rj,_,_,rfl,_,h2⟩:=indepW j e hje hD hne;exact(h2 q hwe).2 hq') hii
  refine qxo ho hres' R λρ' a' w' R'=>?_
  have hget:∀j,(listed.setIfInBounds i true).getD j false=(decide (j=i)||listed.getD j false):=λj=>by
   by_cases hji:j=i
   .exact Q2A
   exact Q2d
  have hcur:cur (λj=>(listed.setIfInBounds i true).getD j false) 0 (q4o ops.toList rs) st=(cur (λj=>listed.getD j false) 0 (q4o ops.toList rs) st).after o.dst r.v r.ms:=by
   have hfun:(λj=>(listed.setIfInBounds i true).getD j false)=(λj=>decide (j=i)||listed.getD j false):=funext hget;rw[hfun];have later:∀(j:Nat)(e:Eff),(q4o ops.toList rs)[j]?=some e->i<0+j->listed.getD (0+j) false=true->(∀d,e.dst=some d->o.dst≠some d)/\∀q,q∈e.ms.map (·.1)->q∉r.ms.map (·.1):=λj e hje hlt' hD=>by
    rw[xl] at hlt' hD;obtain⟨oj,rj,_,_,rfl,h1,h2⟩:=indepW j e hje ⟨λ_=>by omega,λ_=>hD⟩ Q4P;exact⟨λd hd=>(h1 d hd).2,λq hq'=>(h2 q hq').2⟩
   refine St.ext' (λq=>?_) (λq=>?_)
   .refine qhd (qff q) (e0:=⟨o.dst,r.v,r.ms⟩) (q4o ops.toList rs) 0 st Q4P hei hDi (λhw j e hje hlt' hwe=>?_);cases h:listed.getD (0+j) false with
    | false=>rfl
    | true=>exact absurd hw ((later j e hje hlt' h).1 q hwe)
   .refine qhd (qez q) (e0:=⟨o.dst,r.v,r.ms⟩) (q4o ops.toList rs) 0 st Q4P hei hDi (λhw j e hje hlt' hwe=>?_);cases h:listed.getD (0+j) false with
    | false=>rfl
    | true=>exact absurd hw ((later j e hje hlt' h).2 q hwe)
  refine ih (S.erase i) (listed.setIfInBounds i true) ?_ (hnd.erase i) (by simp[hsz]) (λj hj=>?_) (λj hj=>hlt j (List.mem_of_mem_erase hj)) (λj oj hoj hDj e hee hb=>?_) ρ' a' w' (by rw[hcur];exact R')
  .rw[List.length_erase_of_mem hiS,hS];rfl
  .rw[hget,hnd.mem_erase_iff];simp only[yE,xu,hdS j hj];exact Q1r
  .rw[hget] at hDj ⊢;simp only[yE,xu] at hDj ⊢;rcases hDj with rfl|hDj
   .rw[hol] at hoj;simp only[Option.some.injEq] at hoj;subst hoj;exact .inr (hready e Q5W hb)
   .exact .inr (hcl j oj hoj hDj e hee hb)
theorem qrh(ht:Trace P ops.toList ops.toList st rs st')(hc:qli ops.toList (feet rs)=true)(he:qbs ops.toList 0=true)(hq:∀ρ a w,Rel X ρ st' a w->Q .normal a w){ρ:Rz}{a:Act}{w:World}(R:Rel X ρ st a w):
  wpAny P .any ops Q ops.size (Array.replicate ops.size false) a w:=by
 have h0:∀j,(Array.replicate ops.size false).getD j false=false:=λj=>Q2w
 refine qy5 ht hc he hq ops.size (List.range ops.size) _ Q50 List.nodup_range Q50 (λi hi=>?_) (λi hi=>by simpa using hi) (λj o _ h=>by rw[h0] at h;cases h) ρ a w ?_
 .rw[h0];simp[hi]
 .rw[qdg _ 0 st (λi _=>h0 _)];exact R
end
structure Stp where
 i:Nat
 o:Oper
 r:Res
 f:List Nat×List Nat
 mu:Bool
def effsS(S:List Stp):List Eff:=S.map λs=>⟨s.o.dst,s.r.v,s.r.ms⟩
variable{S:List Stp}
theorem qri{s:Stp}(h:S[k]?=some s):(effsS S)[k]?=some ⟨s.o.dst,s.r.v,s.r.ms⟩:=by simp[effsS,h]
theorem qc7{e:Eff}(h:(effsS S)[k]?=some e):∃s,S[k]?=some s/\e=⟨s.o.dst,s.r.v,s.r.ms⟩:=by
 simp only[effsS,xN] at h;cases hs:S[k]? with
 | none=>rw[hs] at h;cases h
 | some s=>rw[hs] at h;exact⟨s,rfl,by simpa using h.symm⟩
def q8q(P:Program)(ops:List Oper)(st:St)(s:Stp):Prop:=(s.mu=false->OpRes P ops s.o st s.r)/\(∀q∈s.r.rh,q∈s.f.1)/\∀q∈s.r.ms.map (·.1),q∈s.f.2
def q4g(P:Program)(ops:List Oper):List Stp->St->St->Prop
 | [],st,st'=>st'=st
 | s::S,st,st'=>q8q P ops st s/\q4g P ops S (st.after s.o.dst s.r.v s.r.ms) st'
theorem qjl{P:Program}{ops:List Oper}:∀{S:List Stp}{st st':St}{k0:Nat},q4g P ops S st st'->∀k s,S[k]?=some s->q8q P ops (cur (λj=>decide (j<k0+k)) k0 (effsS S) st) s
 | [],_,_,_,_,k,s,h=>by simp at h
 | s'::S,st,st',k0,h,k,s,hs=>by
  obtain⟨h1,h2⟩:=h;cases k with
  | zero=>
   simp only[yn,Option.some.injEq] at hs;subst hs;rw[qdg _ k0 st (λi _=>by simp)];exact h1
  | succ k=>
   have:=qjl (k0:=k0+1) h2 k s (by simpa using hs);have e:decide (k0<k0+(k+1))=true:=by simp
   simp only[effsS,xk,cur,e];rw[show k0+(k+1)=k0+1+k by omega];exact this
theorem qjm{P:Program}{ops:List Oper}:∀{S:List Stp}{st st':St}{k0:Nat},q4g P ops S st st'->cur (λ_=>true) k0 (effsS S) st=st'
 | [],_,_,_,h=>by cases h;rfl
 | s::S,st,st',k0,h=>by
  simp only[effsS,xk,cur];exact qjm h.2
theorem qoc{P:Program}{ops:List Oper}:∀{S T:List Stp}{st m st':St},q4g P ops S st m->q4g P ops T m st'->q4g P ops (S++T) st st'
 | [],_,_,_,_,h,k=>by cases h;exact k
 | s::S,_,_,_,_,h,k=>⟨h.1,qoc h.2 k⟩
theorem qrj{D:Nat->Bool}:∀(es es':List Eff)(k:Nat)(st:St),cur D k (es++es') st=cur D (k+es.length) es' (cur D k es st)
 | [],_,_,_=>rfl
 | e::es,es',k,st=>by
  simp only[List.cons_append,cur,yx];rw[qrj es es' (k+1),show k+1+es.length=k+(es.length+1) by omega]
theorem qlk:∀(os:List Oper)(acc:List Nat)(k:Nat)(o:Oper),os[k]?=some o->(masks os acc)[acc.length+k]?=some (qe0 o ((masks os acc).take (acc.length+k)))
 | [],_,k,o,h=>by simp at h
 | o0::os,acc,k,o,h=>by
  cases k with
  | zero=>
   simp only[yn,Option.some.injEq] at h;subst h;have htake:(masks (o0::os) acc).take (acc.length+0)=acc:=by
    apply xO;intro i;rw[zc];by_cases hi:i<acc.length+0
    .exact Q2q
    .rw[if_neg hi,yA Q4P]
   rw[htake,masks,qcg os _ _ Q50,yF Q4P];simp
  | succ k=>
   have:=qlk os (acc++[qe0 o0 acc]) k o Q5J;simp only[xP,List.length_singleton] at this;rw[show acc.length+(k+1)=acc.length+1+k by omega];exact this
def mkAt(ops:List Oper)(i:Nat):Nat:=match q4k (masks ops []) i with
 | some m=>m
 | none=>0
theorem qy6{o:Oper}(h:ops[i]?=some o):mkAt ops i=qe0 o ((masks ops []).take i):=by
 have:=qlk ops [] i o h;simp only[List.length_nil,xl] at this;unfold mkAt;rw[qba,this]
theorem qei{D:Nat->Bool}(he:qbs ops 0=true)(hcl:∀(j:Nat)(o:Oper),ops[j]?=some o->D j=true->∀e∈o.after.toList,Region.binds .any e=true->D e.on=true):
  ∀(j:Nat)(o:Oper)(i:Nat),ops[j]?=some o->(mkAt ops j).testBit i=true->(∀e∈o.after.toList,Region.binds .any e=true->D e.on=true)->D i=true:=by
 intro j
 induction j using Nat.strongRecOn with
 | _ j ih=>
  intro o i ho hb hedges;rw[qy6 ho] at hb;obtain⟨e,hee,hbe,h⟩:=qoa hb;have hD:=hedges e hee hbe;rcases h with h|⟨m2,hm2,hb2⟩
  .rwa[<-h]
  .have hlt:=qeh he j o ho e hee hbe;rw[xl] at hlt;rw[zc,if_pos hlt] at hm2;have hol:e.on<ops.length:=xM hlt (xe.1 ho).1;refine ih e.on hlt ops[e.on] i (xn hol) ?_ (hcl e.on _ (xn hol) hD);unfold mkAt;rw[qba,hm2];exact hb2
def q4b(ops:List Oper)(s:Stp):q8f:=⟨qdh ops s.o,s.o.dst.toList,s.f.1,s.f.2,0⟩
def qrk(ops:List Oper)(a b:Stp):Prop:=(mkAt ops b.i).testBit a.i=true\/q4m (q4b ops a) (q4b ops b)=true
def q44(ops:List Oper)(S:List Stp):Prop:=∀(k l:Nat)(a b:Stp),k<l->S[k]?=some a->S[l]?=some b->qrk ops a b
def qm7(P:Program)(o:Oper)(st:St)(hs:List Nat)(F:Value->Mz->Prop):Prop:=
 ∀st₂:St,(∀x∈o.op.operands.toList,∀u,EvTo x st u->EvTo x st₂ u)->(∀i∈hs,st₂.h[i]?=st.h[i]?)->EffAll P o st₂ F
structure Own(ops:List Oper)(S:List Stp):Prop where
 at_:∀(k:Nat)(s:Stp),S[k]?=some s->ops[s.i]?=some s.o
 inj:∀(k l:Nat)(a b:Stp),S[k]?=some a->S[l]?=some b->a.i=b.i->k=l
def qod(ops:List Oper)(o:Oper)(s:St):Prop:=match o.guard with
 | none=>True
 | some (j,want)=>∃(oj:Oper)(d:Nat),ops[j]?=some oj/\oj.dst=some d/\s.t[d]?=some (some (.bool want))
def q61(P:Program)(ops:List Oper)(Kend:St->Prop):List (Nat×List Nat)->List Stp->St->Prop
 | [],S,s=>Own ops S/\q44 ops S/\(∀i,i<ops.length->∃(k:Nat)(t:Stp),S[k]?=some t/\t.i=i)/\Kend s
 | (m,seg)::rest,S,s=>∃(om:Oper)(hs:List Nat),ops[m]?=some om/\qod ops om s/\(∀t:Stp,t.i=m->t.o=om->t.f=(hs,hs)->Own ops (S++[t])/\q44 ops (S++[t]))/\
   (∀i,i<ops.length->(∃(k:Nat)(t:Stp),S[k]?=some t/\t.i=i)\/i=m\/(mkAt ops i).testBit m=true)/\
   qm7 P om s hs (λv ms=>(∀q∈ms.map (·.1),q∈hs)/\∃(S2:List Stp)(s2:St),(∀t∈S2,t.mu=false)/\q4g P ops S2 (s.after om.dst v ms) s2/\q61 P ops Kend rest (S++⟨m,om,⟨v,ms,hs⟩,(hs,hs),true⟩::S2) s2)
def DL(listed:Array Bool)(S:List Stp)(k:Nat):Bool:=match S[k]? with
 | some s=>listed.getD s.i false
 | none=>false
theorem qec{listed:Array Bool}{s:Stp}(h:S[k]?=some s):DL listed S k=listed.getD s.i false:=by unfold DL;rw[h]
section
variable{P:Program}{ops:Array Oper}{Q:Exit->Act->World->Prop}{X:Ctx}{st:St}
variable{S:List Stp}{listed:Array Bool}
theorem qfh{n:Nat}{α:Type}{f:St->α}{W:Eff->Prop}(hp:q7h f W)
  (hw:∀(j:Nat)(a:Stp),S[j]?=some a->(j<n->listed.getD a.i false=false->¬ W ⟨a.o.dst,a.r.v,a.r.ms⟩)/\(n<=j->listed.getD a.i false=true->¬ W ⟨a.o.dst,a.r.v,a.r.ms⟩)) :
  f (cur (DL listed S) 0 (effsS S) st)=f (cur (λj=>decide (j<n)) 0 (effsS S) st):=by
 refine qbh hp _ 0 st st (λj e hje hwe=>?_) rfl
 rw[xl]
 obtain⟨a,ha,rfl⟩:=qc7 hje
 rw[qec ha]
 obtain⟨w1,w2⟩:=hw j a ha
 rcases yc j n with h|h
 .cases e:listed.getD a.i false with
  | true=>simp[h]
  | false=>exact absurd hwe (w1 h e)
 .cases e:listed.getD a.i false with
  | true=>exact absurd hwe (w2 h e)
  | false=>simp;omega
theorem qc8{ops:List Oper}{a b:Stp}(h:q4m (q4b ops a) (q4b ops b)=true):
  (∀t∈qdh ops b.o,¬ a.o.dst=some t)/\(∀t,a.o.dst=some t->¬ b.o.dst=some t)/\(∀t∈qdh ops a.o,¬ b.o.dst=some t)/\(∀q∈a.f.2,q∉b.f.1/\q∉b.f.2)/\∀q∈b.f.2,q∉a.f.1:=by
 simp only[q4m,xi] at h
 obtain⟨⟨⟨⟨⟨h1,h2⟩,h3⟩,h4⟩,h5⟩,h6⟩:=h
 refine⟨λt ht e=>qbe h1 (x:=t) (by simp[q4b,e]) ht,λt e e2=>qbe h2 (x:=t) (by simp[q4b,e]) (by simp[q4b,e2]),λt ht e=>qbe h3 (x:=t) (by simp[q4b,e]) ht,λq hq=>⟨qbe h4 hq,qbe h5 hq⟩,λq hq=>qbe h6 hq⟩
theorem qu9(he:qbs ops.toList 0=true){s':St}(ho:Own ops.toList S)(hp:q44 ops.toList S)(hg:q4g P ops.toList S st s')(hsz:listed.size=ops.size)
  (hcl:∀(j:Nat)(o:Oper),ops.toList[j]?=some o->listed.getD j false=true->∀e∈o.after.toList,Region.binds .any e=true->listed.getD e.on false=true)
  {k:Nat} {b:Stp} (hk:S[k]?=some b) (hmu:b.mu=false) (hD:listed.getD b.i false=false) (hready:∀e∈b.o.after.toList,Region.binds .any e=true->listed.getD e.on false=true)
  {ρ:Rz} {a:Act} {w:World} (R:Rel X ρ (cur (DL listed S) 0 (effsS S) st) a w) {next:Act->World->Prop}
  (hn:∀ρ' a' w',Rel X ρ' (cur (DL (listed.setIfInBounds b.i true) S) 0 (effsS S) st) a' w'->next a' w'):wpOp P ops Q b.i next a w:=by
 have hbo:=ho.at_ k b hk
 have mb:∀q,(mkAt ops.toList b.i).testBit q=true->listed.getD q false=true:=λq hq=>qei (D:=λj=>listed.getD j false) he hcl b.i b.o q hbo hq hready
 have ahead:∀(j:Nat)(c:Stp),S[j]?=some c->j<k->listed.getD c.i false=false->q4m (q4b ops.toList c) (q4b ops.toList b)=true:=λj c hc hj hl=>by
  rcases hp j k c b hj hc hk with h|h
  .rw[mb _ h] at hl;cases hl
  .exact h
 have behind:∀(j:Nat)(c:Stp),S[j]?=some c->k<=j->listed.getD c.i false=true->q4m (q4b ops.toList b) (q4b ops.toList c)=true:=λj c hc hj hl=>by
  have hne:k≠j:=λe=>by subst e;rw[hk] at hc;cases hc;rw[hD] at hl;cases hl
  rcases hp k j b c Q4P hk hc with h|h
  .have:=qei (D:=λj=>listed.getD j false) he hcl c.i c.o b.i (ho.at_ j c hc) h (λe hee hbe=>hcl c.i c.o (ho.at_ j c hc) hl e hee hbe);rw[this] at hD;cases hD
  .exact h
 have gb:=qjl (k0:=0) hg k b hk
 rw[xl] at gb
 have gf:∀(j:Nat)(c:Stp),S[j]?=some c->∀q∈c.r.ms.map (·.1),q∈c.f.2:=λj c hc=>(qjl (k0:=0) hg j c hc).2.2
 have hres:OpRes P ops.toList b.o (cur (DL listed S) 0 (effsS S) st) b.r:=by
  refine(gb.1 hmu).move (λt ht=>?_) (λq hq=>?_) (λq hq=>?_)
  .exact qfh (qff t) λj c hc=>⟨λhj hl hw=>(qc8 (ahead j c hc hj hl)).1 t ht hw,λhj hl hw=>(qc8 (behind j c hc hj hl)).2.2.1 t ht hw⟩
  .exact qfh (qez q) λj c hc=>⟨λhj hl hw=>((qc8 (ahead j c hc hj hl)).2.2.2.1 q (gf j c hc q hw)).1 (gb.2.1 q hq),λhj hl hw=>(qc8 (behind j c hc hj hl)).2.2.2.2 q (gf j c hc q hw) (gb.2.1 q hq)⟩
  .exact qfh (qez q) λj c hc=>⟨λhj hl hw=>((qc8 (ahead j c hc hj hl)).2.2.2.1 q (gf j c hc q hw)).2 (gb.2.2 q hq),λhj hl hw=>((qc8 (behind j c hc hj hl)).2.2.2.1 q (gb.2.2 q hq)).2 (gf j c hc q hw)⟩
 have hb2:ops[b.i]?=some b.o:=by simpa using hbo
 have his:b.i<listed.size:=by rw[hsz];exact(xI.1 hb2).1
 refine qxo hb2 hres R λρ' a' w' R'=>hn ρ' a' w' ?_
 have hget:∀j,(listed.setIfInBounds b.i true).getD j false=(decide (j=b.i)||listed.getD j false):=λj=>by
  by_cases hji:j=b.i
  .exact Q2A
  exact Q2d
 have hfun:DL (listed.setIfInBounds b.i true) S=λj=>decide (j=k)||DL listed S j:=funext λj=>by
  cases hj:S[j]? with
  | none=>
   have:j≠k:=λe=>by subst e;rw[hk] at hj;cases hj
   simp[DL,hj,this]
  | some c=>
   rw[qec hj,qec hj,hget];congr 1;by_cases e:j=k
   .subst e;rw[hk] at hj;cases hj;simp
   .have:c.i≠b.i:=λe2=>e (ho.inj j k c b hj hk e2)
    simp[e,this]
 have hcur:cur (DL (listed.setIfInBounds b.i true) S) 0 (effsS S) st=(cur (DL listed S) 0 (effsS S) st).after b.o.dst b.r.v b.r.ms:=by
  rw[hfun];have hei:=qri hk;have hDk:DL listed S k=false:=by rw[qec hk];exact hD
  refine St.ext' (λq=>?_) (λq=>?_)
  .refine qhd (qff q) (e0:=⟨b.o.dst,b.r.v,b.r.ms⟩) (effsS S) 0 st Q4P hei hDk (λhw j e hje hlt' hwe=>?_);obtain⟨c,hc,rfl⟩:=qc7 hje;rw[xl] at hlt' ⊢;rw[qec hc];cases h:listed.getD c.i false with
   | false=>rfl
   | true=>exact absurd hwe ((qc8 (behind j c hc Q4P h)).2.1 q hw)
  .refine qhd (qez q) (e0:=⟨b.o.dst,b.r.v,b.r.ms⟩) (effsS S) 0 st Q4P hei hDk (λhw j e hje hlt' hwe=>?_);obtain⟨c,hc,rfl⟩:=qc7 hje;rw[xl] at hlt' ⊢;rw[qec hc];cases h:listed.getD c.i false with
   | false=>rfl
   | true=>exact absurd (gf j c hc q hwe) ((qc8 (behind j c hc Q4P h)).2.2.2.1 q (gb.2.2 q hw)).2
 rw[hcur]
 exact R'
structure Done(ops:Array Oper)(fuel:Nat)(U:List Nat)(listed:Array Bool):Prop where
 len:U.length=fuel
 nd:U.Nodup
 sz:listed.size=ops.size
 un:∀i,i<ops.size->(listed.getD i false=true↔i∉U)
 lt:∀i∈U,i<ops.size
 cl:∀(j:Nat)(o:Oper),ops.toList[j]?=some o->listed.getD j false=true->∀e∈o.after.toList,Region.binds .any e=true->listed.getD e.on false=true
variable{i:Nat}
theorem get_set(h:i<listed.size)(j:Nat):(listed.setIfInBounds i true).getD j false=(decide (j=i)||listed.getD j false):=by
 by_cases hji:j=i
 .subst hji;simp[xY,yY,h]
 exact Q2d
theorem Done.step{fuel:Nat}{U:List Nat}(d:Done ops (fuel+1) U listed){o:Oper}(hi:ops[i]?=some o)(hD:listed.getD i false=false)(hready:∀e∈o.after.toList,Region.binds .any e=true->listed.getD e.on false=true):
  Done ops fuel (U.erase i) (listed.setIfInBounds i true):=by
 have hil:=(xI.1 hi).1
 have his:i<listed.size:=by rw[d.sz];exact hil
 have hiU:i∈U:=by
  rcases Classical.em (i∈U) with h|h
  .exact h
  .have:=(d.un i hil).2 h;rw[hD] at this;cases this
 have hol:ops.toList[i]?=some o:=by simpa using hi
 refine⟨?_,d.nd.erase i,by simp[d.sz],λj hj=>?_,λj hj=>d.lt j (List.mem_of_mem_erase hj),λj oj hoj hDj e hee hb=>?_⟩
 .rw[List.length_erase_of_mem hiU,d.len];rfl
 .rw[get_set his,d.nd.mem_erase_iff];simp only[yE,xu,d.un j hj];exact Q1r
 .rw[get_set his] at hDj ⊢;simp only[yE,xu] at hDj ⊢;rcases hDj with rfl|hDj
  .rw[hol] at hoj;simp only[Option.some.injEq] at hoj;subst hoj;exact .inr (hready e hee hb)
  .exact .inr (d.cl j oj hoj hDj e hee hb)
theorem qfi(hsz:listed.size=ops.size)(h:i∈Region.ready .any ops listed):∃o,ops[i]?=some o/\listed.getD i false=false/\∀e∈o.after.toList,Region.binds .any e=true->listed.getD e.on false=true:=by
 obtain⟨h0,o,ho,hr⟩:=mem_ready.1 h;have hil:=(xI.1 ho).1;have his:i<listed.size:=by omega
 refine⟨o,ho,?_,λe hee hb=>hr e Q5W hb⟩;exact Q2m
theorem qoe(he:qbs ops.toList 0=true)(hsz:listed.size=ops.size)(hr:Region.ready .any ops listed=[]):∀i,i<ops.size->listed.getD i false=true:=by
 intro i
 induction i using Nat.strongRecOn with
 | _ i ih=>
  intro hi;cases hl:listed.getD i false with
  | true=>rfl
  | false=>
   exfalso;exact Q0F
theorem qrl(he:qbs ops.toList 0=true){s':St}(ho:Own ops.toList S)(hp:q44 ops.toList S)(hg:q4g P ops.toList S st s')(Inv:Array Bool->Prop)
  (hInv:∀(listed:Array Bool)(k:Nat)(b:Stp),listed.size=ops.size->S[k]?=some b->Inv listed->Inv (listed.setIfInBounds b.i true))
  (hmul:∀(listed:Array Bool)(k:Nat)(b:Stp),Inv listed->S[k]?=some b->b.mu=true->listed.getD b.i false=true)
  (hend:∀listed:Array Bool,Inv listed->(∀i,i<ops.size->listed.getD i false=true)->∀ρ a w,Rel X ρ (cur (DL listed S) 0 (effsS S) st) a w->Q .normal a w)
  (hoth:∀(fuel:Nat)(U:List Nat)(listed:Array Bool)(i:Nat)(o:Oper),Done ops (fuel+1) U listed->Inv listed->ops[i]?=some o->listed.getD i false=false->(∀e∈o.after.toList,Region.binds .any e=true->listed.getD e.on false=true)->(∀(k:Nat)(b:Stp),S[k]?=some b->b.i≠i)->
   ∀ρ a w,Rel X ρ (cur (DL listed S) 0 (effsS S) st) a w->wpOp P ops Q i (wpAny P .any ops Q fuel (listed.setIfInBounds i true)) a w) :
  ∀(fuel:Nat)(U:List Nat)(listed:Array Bool),Done ops fuel U listed->Inv listed->∀ρ a w,Rel X ρ (cur (DL listed S) 0 (effsS S) st) a w->wpAny P .any ops Q fuel listed a w:=by
 intro fuel
 induction fuel with
 | zero=>
  intro U listed d hI ρ a w R;have hU:U=[]:=yG.1 d.len;subst hU;have hall:∀i,i<ops.size->listed.getD i false=true:=λi hi=>(d.un i hi).2 Q50
  refine⟨?_,hend listed hI hall ρ a w R⟩;apply List.eq_nil_iff_forall_not_mem.2;intro j hj;obtain⟨o,h1,h2,_⟩:=qfi d.sz hj;rw[hall j (xI.1 h1).1] at h2;cases h2
 | succ fuel ih=>
  intro U listed d hI ρ a w R;refine⟨λhr=>hend listed hI (qoe he d.sz hr) ρ a w R,λi hi=>?_⟩;obtain⟨o,h1,h2,h3⟩:=qfi d.sz hi;rcases Classical.em (∃(k:Nat)(b:Stp),S[k]?=some b/\b.i=i) with ⟨k,b,hk,rfl⟩|hno
  .have hbo:b.o=o:=by
    have:=ho.at_ k b hk;rw[show ops.toList[b.i]?=ops[b.i]? by simp,h1] at this;cases this;rfl
   subst hbo;have hmu:b.mu=false:=by
    cases e:b.mu with
    | false=>rfl
    | true=>rw[hmul listed k b hI hk e] at h2;cases h2
   exact qu9 he ho hp hg d.sz d.cl hk hmu h2 h3 R λρ' a' w' R'=>ih (U.erase b.i) _ (d.step h1 h2 h3) (hInv listed k b d.sz hk hI) ρ' a' w' R'
  .exact hoth fuel U listed i o d hI h1 h2 h3 (λk b hk e=>hno ⟨k,b,hk,e⟩) ρ a w R
theorem qfj{ops:List Oper}{t:Stp}(h:Own ops (S++[t])):Own ops S/\∀(k:Nat)(b:Stp),S[k]?=some b->b.i≠t.i:=by
 have front:∀(k:Nat)(b:Stp),S[k]?=some b->(S++[t])[k]?=some b:=λk b hk=>by rw[yR (xe.1 hk).1];exact hk
 refine⟨⟨λk b hk=>h.at_ k b (front k b hk),λk l a b hk hl e=>h.inj k l a b (front k a hk) (front l b hl) e⟩,λk b hk e=>?_⟩;have:=h.inj k S.length b t (front k b hk) Q65 e;have:=(xe.1 hk).1;omega
theorem qhf{ops:List Oper}{t:Stp}(h:q44 ops (S++[t])):q44 ops S/\∀(k:Nat)(b:Stp),S[k]?=some b->qrk ops b t:=by
 have front:∀(k:Nat)(b:Stp),S[k]?=some b->(S++[t])[k]?=some b:=λk b hk=>by rw[yR (xe.1 hk).1];exact hk
 exact⟨λk l a b hkl hk hl=>h k l a b hkl (front k a hk) (front l b hl),λk b hk=>h k S.length b t (xe.1 hk).1 (front k b hk) Q65⟩
variable{Kend:St->Prop}
theorem qof:∀{rest:List (Nat×List Nat)}{S:List Stp}{s:St},q61 P ops.toList Kend rest S s->Own ops.toList S/\q44 ops.toList S
 | [],S,s,h=>⟨h.1,h.2.1⟩
 | (m,seg)::rest,S,s,h=>by
  obtain⟨om,hs,_,_,h3,_⟩:=h;obtain⟨h4,h5⟩:=h3 ⟨m,om,⟨undef,[],hs⟩,(hs,hs),true⟩ rfl rfl rfl;exact⟨(qfj h4).1,(qhf h5).1⟩
theorem qrm(he:qbs ops.toList 0=true)(hq:∀s ρ a w,Kend s->Rel X ρ s a w->Q .normal a w):
  ∀(rest:List (Nat×List Nat))(S:List Stp)(s:St),q61 P ops.toList Kend rest S s->Own ops.toList S->q44 ops.toList S->q4g P ops.toList S st s->
  ∀(fuel:Nat)(U:List Nat)(listed:Array Bool),Done ops fuel U listed->(∀(k:Nat)(t:Stp),S[k]?=some t->t.mu=true->listed.getD t.i false=true)->(∀x,rest.head? = some x->listed.getD x.1 false=false)->
   ∀ρ a w,Rel X ρ (cur (DL listed S) 0 (effsS S) st) a w->wpAny P .any ops Q fuel listed a w:=by
 intro rest
 induction rest with
 | nil=>
  intro S s hP ho hp hg fuel U listed d hmu _ ρ a w R;obtain⟨_,_,hcov,hK⟩:=hP;refine qrl he ho hp hg (λlisted=>∀(k:Nat)(t:Stp),S[k]?=some t->t.mu=true->listed.getD t.i false=true) (λlisted k b hsz hk hI k' t ht hm=>?_) (λlisted k b hI hk hm=>hI k b hk hm) (λlisted hI hall ρ a w R=>hq s ρ a w hK ?_) (λfuel U listed i o d hI h1 h2 h3 hno=>?_) fuel U listed d hmu ρ a w R
  .have hb:b.i<listed.size:=Q2r;rw[get_set hb,hI k' t ht hm];simp
  .have:cur (DL listed S) 0 (effsS S) st=s:=by
    rw[<-qjm (k0:=0) hg];refine St.ext' (λq=>?_) (λq=>?_)
    .refine qbh (qff q) _ 0 st st (λj e hje _=>?_) rfl;exact Q1K
    .refine qbh (qez q) _ 0 st st (λj e hje _=>?_) rfl;exact Q1K
   rw[<-this];exact R
  .obtain⟨k,t,hk,e⟩:=hcov i (by simpa using (xI.1 h1).1);exact absurd e (hno k t hk)
 | cons x rest ih=>
  obtain⟨m,seg⟩:=x;intro S s hP ho hp hg fuel U listed d hmu hhead ρ a w R;obtain⟨om,hs,hm,hgd,hown,hcov,hM⟩:=hP;have hm2:ops[m]?=some om:=by simpa using hm
  have hml:=(xI.1 hm2).1;obtain⟨t0,ht0⟩:∃t0:Stp,t0=⟨m,om,⟨undef,[],hs⟩,(hs,hs),true⟩:=⟨_,rfl⟩;obtain⟨o1,o2⟩:=hown t0 (by rw[ht0]) (by rw[ht0]) (by rw[ht0]);have hnm:∀(k:Nat)(b:Stp),S[k]?=some b->b.i≠m:=λk b hk e=>(qfj o1).2 k b hk (by rw[ht0];exact e)
  refine qrl he ho hp hg (λlisted=>(∀(k:Nat)(t:Stp),S[k]?=some t->t.mu=true->listed.getD t.i false=true)/\listed.getD m false=false) (λlisted k b hsz hk hI=>?_) (λlisted k b hI hk hm=>hI.1 k b hk hm) (λlisted hI hall ρ a w R=>?_) (λfuel U listed i o d hI h1 h2 h3 hno ρ a w R=>?_) fuel U listed d ⟨hmu,hhead _ rfl⟩ ρ a w R
  .have hb:b.i<listed.size:=Q2r;refine⟨λk' t ht hm'=>by rw[get_set hb,hI.1 k' t ht hm'];simp,?_⟩;rw[get_set hb,hI.2];have:=hnm k b hk;simp;omega
  .have:=hall m hml;rw[hI.2] at this;cases this
  .have hil:i<ops.toList.length:=by simpa using (xI.1 h1).1
   have hol:ops.toList[i]?=some o:=by simpa using h1
   have masked:∀j,j<ops.toList.length->(∀(k:Nat)(b:Stp),S[k]?=some b->b.i≠j)->j≠m->listed.getD j false=false:=λj hj hjS hjm=>by
    rcases hcov j hj with ⟨k,t,hk,e⟩|e|e
    .exact absurd e (hjS k t hk)
    .exact absurd e hjm
    .cases hl:listed.getD j false with
     | false=>rfl
     | true=>
      have hoj:ops.toList[j]?=some ops.toList[j]:=xn hj;have:=qei (D:=λj=>listed.getD j false) he d.cl j _ m hoj e (d.cl j _ hoj hl);rw[hI.2] at this;cases this
   rcases hcov i hil with ⟨k,t,hk,e⟩|rfl|e
   .exact absurd e (hno k t hk)
   .have hoo:o=om:=by rw[hm2] at h1;cases h1;rfl
    subst hoo;have agr:∀{α:Type}{f:St->α}{W:Eff->Prop},q7h f W->(∀(j:Nat)(c:Stp),S[j]?=some c->q4m (q4b ops.toList c) (q4b ops.toList t0)=true->¬ W ⟨c.o.dst,c.r.v,c.r.ms⟩)->f (cur (DL listed S) 0 (effsS S) st)=f s:=λhpt hw=>by
     rw[qfh (n:=S.length) hpt λj c hc=>⟨λhj hl=>hw j c hc ?_,λhj hl=>absurd (xe.1 hc).1 Q4P⟩,<-qjm (k0:=0) hg]
     .refine qbh hpt _ 0 st st (λj e hje _=>?_) rfl;obtain⟨c,hc,rfl⟩:=qc7 hje;have:=(xe.1 hc).1;rw[xl];simp[this]
     .rcases(qhf o2).2 j c hc with h|h
      .rw[ht0] at h;have:=qei (D:=λj=>listed.getD j false) he d.cl i o c.i hol h h3;rw[this] at hl;cases hl
      .exact h
    have hw:Region.wanted o (yielded ops a.tmps)=true:=by
     unfold qod at hgd;cases hg':o.guard with
     | none=>simp[Region.wanted,hg']
     | some jw=>
      obtain⟨j,want⟩:=jw;rw[hg'] at hgd;obtain⟨oj,dj,hj,hdj,hb⟩:=hgd;have hb2:=(agr (qff dj) λj c hc hi hwe=>(qc8 hi).1 dj (by
       rw[ht0];unfold qdh;apply zd;simp only[hg'];rw[qba,hj];simp[hdj]) hwe).trans hb
      obtain⟨y,hy,hyd⟩:=R.slot dj _ hb2;have hyb:y=.bool want:=hyd.self.symm;have hj':ops[j]?=some oj:=by simpa using hj
      have hyl:yielded ops a.tmps j=some want:=by simp[yielded,hj',hdj,hy,hyb]
      simp[Region.wanted,hg',hyl]
    unfold wpOp;rw[h1];simp only;rw[if_pos hw];have hE:=hM (cur (DL listed S) 0 (effsS S) st) (λx hx u hu=>qob (λt ht=>agr (qff t) λj c hc hi hwe=>(qc8 hi).1 t (by
      rw[ht0];unfold qdh;exact List.mem_append_left _ (List.mem_flatMap.2 ⟨x,hx,ht⟩)) hwe) hu)
     (λq hq=>agr (qez q) λj c hc hi hwe=>((qc8 hi).2.2.2.1 q ((qjl (k0:=0) hg j c hc).2.2 q hwe)).1 (by rw[ht0];exact hq))
    refine .inl (hE X ρ a w R _ Q λv ms ρ' x w' hF ha=>?_);obtain⟨hms,S2,s2,hmu2,hg2,hP2⟩:=hF;obtain⟨e1,he1⟩:∃e1:Stp,e1=⟨i,o,⟨v,ms,hs⟩,(hs,hs),true⟩:=⟨_,rfl⟩;rw[<-he1] at hP2;obtain⟨w1,w2⟩:=qof hP2;have his:i<listed.size:=by rw[d.sz];exact hml
    have inL:∀(k:Nat)(b:Stp),S[k]?=some b->(S++e1::S2)[k]?=some b:=λk b hk=>by rw[yR (xe.1 hk).1];exact hk
    have inM:(S++e1::S2)[S.length]?=some e1:=by rw[yF (nlr _)];simp
    have inR:∀(k:Nat)(b:Stp),S2[k]?=some b->(S++e1::S2)[S.length+1+k]?=some b:=λk b hk=>by
     rw[yF Q4P,show S.length+1+k-S.length=k+1 by omega];simpa using hk
    have hg1:q4g P ops.toList (S++e1::S2) st s2:=qoc hg ⟨⟨λh=>(by rw[he1] at h;cases h),λq hq=>(by rw[he1] at hq ⊢;exact hq),λq hq=>(by rw[he1] at hq ⊢;exact hms q hq)⟩,by rw[he1];exact hg2⟩;have un2:∀(k:Nat)(b:Stp),S2[k]?=some b->listed.getD b.i false=false/\b.i≠i:=λk b hk=>by
     have hne:b.i≠i:=λe=>by
      have:=w1.inj _ _ b e1 (inR k b hk) inM (by rw[he1];exact e);omega
     refine⟨masked b.i ?_ (λk' c hc e=>?_) hne,hne⟩
     .exact(xe.1 (w1.at_ _ b (inR k b hk))).1
     .have:=w1.inj _ _ c b (inL k' c hc) (inR k b hk) e;have:=(xe.1 hc).1;omega
    refine ih (S++e1::S2) s2 hP2 w1 w2 hg1 fuel (U.erase i) _ (d.step h1 h2 h3) (λk t hk hmt=>?_) (λy hy=>?_) ρ' _ w' ?_
    .rw[get_set his];rcases Nat.lt_trichotomy k S.length with hlt|rfl|hgt
     .rw[yR hlt] at hk;rw[hI.1 k t hk hmt];simp
     .rw[inM] at hk;cases hk;rw[he1];simp
     .obtain⟨j,rfl⟩:∃j,k=S.length+1+j:=⟨k-(S.length+1),by omega⟩;have hj:S2[j]?=some t:=by
       rw[yF Q4P,show S.length+1+j-S.length=j+1 by omega] at hk;simpa using hk
      rw[hmu2 t (xy hj)] at hmt;cases hmt
    .cases hr:rest with
     | nil=>rw[hr] at hy;cases hy
     | cons z rest'=>
      obtain⟨m2,seg2⟩:=z;rw[hr] at hy hP2;simp only[List.head?_cons,Option.some.injEq] at hy;subst hy;obtain⟨om2,hs2,hm2',_,hown2,_⟩:=hP2;obtain⟨p1,_⟩:=hown2 ⟨m2,om2,⟨undef,[],hs2⟩,(hs2,hs2),true⟩ rfl rfl rfl;have hne:m2≠i:=λe=>(qfj p1).2 _ e1 inM (by rw[he1];exact e.symm)
      rw[get_set his,masked m2 (xe.1 hm2').1 (λk b hk e=>(qfj p1).2 _ b (inL k b hk) e) hne];simp[hne]
    .have hcur:cur (DL (listed.setIfInBounds i true) (S++e1::S2)) 0 (effsS (S++e1::S2)) st=(cur (DL listed S) 0 (effsS S) st).after o.dst v ms:=by
      have hsplit:effsS (S++e1::S2)=effsS S++⟨o.dst,v,ms⟩::effsS S2:=by rw[he1];simp[effsS]
      have hlen:(effsS S).length=S.length:=by simp[effsS]
      rw[hsplit,qrj,hlen,xl];have hfst:cur (DL (listed.setIfInBounds i true) (S++e1::S2)) 0 (effsS S) st=cur (DL listed S) 0 (effsS S) st:=by
       have key:∀(j:Nat)(e:Eff),(effsS S)[j]?=some e->DL (listed.setIfInBounds i true) (S++e1::S2) (0+j)=DL listed S (0+j):=λj e hje=>by
        obtain⟨c,hc,rfl⟩:=qc7 hje;rw[xl,qec (inL j c hc),qec hc,get_set his];simp[hno j c hc]
       exact St.ext' (λq=>qbh (qff q) _ 0 st st (λj e hje _=>key j e hje) rfl) (λq=>qbh (qez q) _ 0 st st (λj e hje _=>key j e hje) rfl)
      rw[hfst];have hmid:DL (listed.setIfInBounds i true) (S++e1::S2) S.length=true:=by rw[qec inM,get_set his,he1];simp
      simp only[cur,hmid];refine qdg _ _ _ λj hj=>?_
      have hj2:j<S2.length:=by simpa[effsS] using hj
      have hc:S2[j]?=some S2[j]:=xn hj2;rw[qec (inR j _ hc),get_set his,(un2 j _ hc).1];simp[(un2 j _ hc).2]
     rw[hcur];exact qdy R ha
   .have:=qei (D:=λj=>listed.getD j false) he d.cl i o m hol e h3;rw[hI.2] at this;cases this
end
noncomputable def jad(ops:List Oper):Bool:=List.rec (motive:=λ_=>Bool) false (λo _ ih=>match o.op with
 | .call ⟨.builtin .append,_,_⟩=>true
 | _=>ih) ops
noncomputable def callB(ops:List Oper):Bool:=List.rec (motive:=λ_=>Bool) false (λo _ ih=>match o.op with
 | .call ⟨.value _,_,_⟩=>true
 | _=>ih) ops
def jao(b:Bool)(A B:Prop):Prop:=match b with
 | false=>A
 | true=>N (q9z A B)
variable{b:Bool}
theorem qva{B:Prop}(h:jao b A B):A\/B:=by
 cases b with
 | false=>exact .inl h
 | true=>exact N.out h
noncomputable def entB(ops:List Oper):Bool:=List.rec (motive:=λ_=>Bool) false (λo _ ih=>match o.op with
 | .mapEntry _ _ _=>true
 | _=>ih) ops
def q91(ops:List Oper):List Nat->(List Oper->Prop)->Prop
 | [],K=>K []
 | i::r,K=>match q4k ops i with
  | some o=>q91 ops r λos=>K (o::os)
  | none=>False
theorem qog{ops:List Oper}:∀{L:List Nat}{K:List Oper->Prop},q91 ops L K->∃os,os.length=L.length/\(∀(k i:Nat)(o:Oper),L[k]?=some i->os[k]?=some o->ops[i]?=some o)/\K os
 | [],K,h=>⟨[],rfl,λk i o h1 _=>by simp at h1,h⟩
 | i::r,K,h=>by
  unfold q91 at h;rw[qba] at h;split at h
  .rename_i o ho;obtain⟨os,h1,h2,h3⟩:=qog h;refine⟨o::os,by simp[h1],λk j p hj hp=>?_,h3⟩;cases k with
   | zero=>simp at hj hp;subst hj hp;exact ho
   | succ k=>exact h2 k j p Q5B (by simpa using hp)
  .exact h.elim
abbrev q45:=List (Nat×List Nat×List Nat)
def qrn:List Oper->Nat
 | []=>0
 | o::os=>qbf o.op+qrn os
def q62(ops:List Oper)(x:Nat×List Nat×List Nat):q8f:=match q4k ops x.1 with
 | some o=>⟨qdh ops o,o.dst.toList,x.2.1,x.2.2,0⟩
 | none=>⟨[],[],[],[],0⟩
def q6l(ops:List Oper):q45->Bool
 | []=>true
 | x::r=>r.all (λy=>Nat.testBit (mkAt ops y.1) x.1||q4m (q62 ops x) (q62 ops y))&&q6l ops r
def qll:List Nat->Bool
 | []=>true
 | x::r=>r.all (λy=>!(Nat.beq x y))&&qll r
def jap(ops:List Oper)(A:q45)(m:Nat)(hs:List Nat):Bool:=
 q6l ops (A++[(m,hs,hs)])&&(qll (A.map (·.1)++[m])&&(List.range ops.length).all λi=>(A.any λx=>Nat.beq x.1 i)||(Nat.beq i m||Nat.testBit (mkAt ops i) m))
def q92(ops:List Oper)(A:q45):Bool:=
 q6l ops A&&(qll (A.map (·.1))&&(List.range ops.length).all λi=>A.any λx=>Nat.beq x.1 i)
noncomputable def segK(P:Program)(G:Tys)(ops:List Oper)(L:List Nat)(sl:Nat)(st:St)(A:q45)(K:Nat->St->q45->Prop):Prop:=
 q91 ops L λos=>wpR P G ops os sl st [] λs acc=>q4c (sl+qrn os) λsl'=>K sl' s (A++List.zip L acc.reverse)
def q6m(P:Program)(g:FuncId)(vs:List Value)(h:Hp)(slot:Nat)(C:List Nat->Prop)(K:List Nat->Value->Mz->Prop):Prop:=
 ∃(hs:List Nat)(R:Value->Mz->Prop),C hs/\(∀h₂:Hp,(∀q∈hs,h₂[q]?=h[q]?)->CallAll P g vs h₂ R)/\∀v ms,R v ms->(∀q∈ms.map (·.1),q∈hs)/\K hs v ms
def qxp(P:Program)(o:Oper)(st:St)(C:List Nat->Prop)(K:List Nat->Value->Mz->Prop):Prop:=
 ∃q,C q/\qm7 P o st q λv ms=>(∀i∈ms.map (·.1),i∈q)/\K q v ms
def q7u(P:Program)(G:Tys)(o:Oper)(st:St)(slot:Nat)(C:List Nat->Prop)(K:List Nat->Value->Mz->Prop):Prop:=
 match o.op with
 | .call ⟨.builtin .append,⟨[x,y]⟩,⟨[t,t']⟩⟩=>match Nat.beq t t' with
  | true=>q3x x st λp=>q3x y st λq=>match q with
   | .slice (some ⟨j,g,some _⟩) m _=>q3y G t λ_ d=>match d with
    | .slice e=>q3y G e λei _=>match ei.zero with
     | some z=>match qai z&&flatB z ei.size&&Nat.ble 1 ei.size with
      | true=>q42 st.h j λcj=>match p with
       | .slice none 0 0=>N (Obl (C [j,slot]) (N (App0N cj g m ei.size ei.bytes z slot (K [j,slot]))))
       | .slice (some ⟨k,0,some s⟩) l c=>q42 st.h k λci=>N (Obl (C [k,j,slot]) (N (AppN ci k s l c cj g m ei.size ei.bytes z slot (K [k,j,slot]))))
       | .iface _ _=>N (qxp P o st C K)
       | _=>False
      | false=>False
     | none=>False
    | _=>False
   | .iface _ _=>N (qxp P o st C K)
   | _=>False
  | false=>False
 | .call ⟨.value f,xs,_⟩=>q3x f st λfv=>match fv with
  | .func (.func g) ⟨us⟩ ⟨cs⟩=>match us.all q4n&&cs.all q4n with
   | true=>q5c xs.toList st λvs=>q5d (us++vs++cs) λl=>N (q6m P g l st.h slot C K)
   | false=>False
  | _=>False
 | _=>False
theorem qhg{α β:Type}{p q:α->β->Prop}:∀{a:List α}{b:List β},All2 p a b->(∀x∈a,∀u,p x u->q x u)->All2 q a b
 | [],[],_,_=>trivial
 | [],_::_,h,_=>h.elim
 | _::_,[],h,_=>h.elim
 | x::a,u::b,h,hm=>⟨hm x Q50 u h.1,qhg h.2 λy hy=>hm y (by simp[hy])⟩
theorem qro{o:Oper}{slot:Nat}{C:List Nat->Prop}{K:List Nat->Value->Mz->Prop}(hG:q32 P G)(hs:st.h[slot]?=some none)(h:q7u P G o st slot C K):∃q,C q/\qm7 P o st q (λv ms=>(∀i∈ms.map (·.1),i∈q)/\K q v ms):=by
 unfold q7u at h;split at h
 .rename_i x y t t' ho;cases hb:Nat.beq t t' with
  | false=>rw[hb] at h;exact h.elim
  | true=>
   rw[hb] at h;obtain rfl:=xF hb;obtain⟨p,hp,h⟩:=qam h;obtain⟨q,hq,h⟩:=qam h;split at h
   .rename_i j g u m c2;obtain⟨i,d,h1,h2,h⟩:=qak hG h;split at h
    .obtain⟨ei,ed,h3,h4,h⟩:=qak hG h;split at h
     .rename_i z hz;cases hc:qai z&&flatB z ei.size&&Nat.ble 1 ei.size with
      | false=>rw[hc] at h;exact h.elim
      | true=>
       rw[hc] at h;simp only[xi,yi] at hc;obtain⟨cj,hj,h⟩:=qa9 h;split at h
       .obtain⟨hC,h⟩:=h.out;rcases N.out h with ⟨v,hr,hm,h63,hby,hk⟩|⟨rfl,hk⟩
        .refine⟨_,hC,λst₂ ha hh=>?_⟩;exact qey ho (ha x Q54 _ hp) (ha y Q54 _ hq) h2 h3 hz hc.1.1 hc.1.2 hc.2 ((hh j Q50).trans hj) hr hm h63 hby ((hh slot Q50).trans hs) λcap hcap=>⟨by simp,hk cap hcap⟩
        .refine⟨_,hC,λst₂ ha hh=>?_⟩;exact qeg ho (ha x Q54 _ hp) (ha y Q54 _ hq) h2 h3 ⟨by simp,hk⟩
       .rename_i k' s' l' c';obtain⟨ci,hi,h⟩:=qa9 h;obtain⟨hC,h⟩:=h.out;obtain⟨v,hr,hf,hln,h63,hby,ha1,hk⟩:=N.out h;refine⟨_,hC,λst₂ ha hh=>?_⟩;exact qis ho (ha x Q54 _ hp) (ha y Q54 _ hq) h2 h3 hz hc.1.1 hc.1.2 hc.2 ((hh _ Q50).trans hi) hln ((hh j Q50).trans hj) hr hf h63 hby ((hh slot Q50).trans hs)
         (λhle=>by obtain⟨d,hw,hK⟩:=ha1 hle;exact⟨d,hw,by simp,hK⟩) (λhlt cap hcap=>⟨by simp,hk hlt cap hcap⟩)
       .exact N.out h
       .exact h.elim
     .exact h.elim
    .exact h.elim
   .exact N.out h
   .exact h.elim
 .rename_i f xs ts ho;obtain⟨v,hv,h⟩:=qam h;split at h
  .rename_i g us cs;cases hb:us.all q4n&&cs.all q4n with
   | true=>
    rw[hb] at h;simp only[xi] at hb;obtain⟨vs,hx,h⟩:=qc3 h;have h:=qc6 (K:=λl=>N (q6m P g l st.h slot C K)) h;obtain⟨q,R,hC,h1,h2⟩:=h.out;refine⟨q,hC,λst₂ ha hh=>?_⟩;refine qhc ho (ha f Q54 _ hv) hb.1 hb.2 ?_ (h1 st₂.h hh) h2;exact qhg hx λx hx' u hu=>ha x (by simp[ho,Op.operands,Call.operands];exact .inr (by simpa using hx')) _ hu
   | false=>rw[hb] at h;exact h.elim
  .exact h.elim
 .exact h.elim
def qrp(ops:List Oper)(o:Oper)(st:St)(K:Prop):Prop:=match o.guard with
 | none=>K
 | some (j,want)=>match q4k ops j with
  | some oj=>match oj.dst with
   | some d=>match st with
    | ⟨t0,_⟩=>q6w t0 d λg=>match g with
     | .bool b=>N (Obl (b=want) K)
     | _=>False
   | none=>False
  | none=>False
theorem qp8{o:Oper}{K:Prop}(h:qrp ops o st K):qod ops o st/\K:=by
 obtain⟨t0,h0⟩:=st;unfold qrp at h;unfold qod;cases hg:o.guard with
 | none=>rw[hg] at h;exact⟨xb,h⟩
 | some jw=>
  obtain⟨j,want⟩:=jw;rw[hg] at h;simp only at h ⊢;rw[qba] at h;split at h
  .rename_i oj hj;split at h
   .rename_i d hd;obtain⟨g,hgv,h⟩:=qcq h;split at h
    .rename_i b;obtain⟨e,h'⟩:=N.out h;subst e;exact⟨⟨oj,d,hj,hd,hgv⟩,h'⟩
    .exact h.elim
   .exact h.elim
  .exact h.elim
noncomputable def planK(P:Program)(G:Tys)(ops:List Oper):List (Nat×List Nat)->Nat->St->q45->(St->Prop)->Prop
 | [],_,st,A,K=>N (Obl (q92 ops A=true) (K st))
 | (m,seg)::rest,sl,st,A,K=>match q4k ops m with
  | some om=>qrp ops om st (match q4k st.h sl with
    | some none=>q7u P G om st sl (λhs=>jap ops A m hs=true) λhs v ms=>qb3 st om.dst v ms λst'=>q4c (sl+qbf om.op) λsl'=>
      segK P G ops seg sl' st' (A++[(m,hs,hs)]) λsl'' st'' A'=>planK P G ops rest sl'' st'' A' K
    | _=>False)
  | none=>False
theorem qrq{P:Program}{ops:List Oper}:∀{os:List Oper}{L:List Nat}{rs:List Res}{st s:St},Trace P ops os st rs s->L.length=os.length->(∀(k i:Nat)(o:Oper),L[k]?=some i->os[k]?=some o->ops[i]?=some o)->
  ∃S:List Stp,q4g P ops S st s/\(∀t∈S,t.mu=false)/\(∀t∈S,ops[t.i]?=some t.o)/\(S.map λt=>(t.i,t.f))=List.zip L (feet rs)
 | [],L,rs,st,s,h,hl,hx=>by
  obtain⟨rfl,rfl⟩:=h;obtain rfl:L=[]:=yG.1 hl;exact⟨[],rfl,by simp,by simp,rfl⟩
 | o::os,[],rs,st,s,h,hl,hx=>by simp at hl
 | o::os,i::L,rs,st,s,h,hl,hx=>by
  obtain⟨r,rs',rfl,h1,h2⟩:=h;obtain⟨S,g1,g2,g3,g4⟩:=qrq (L:=L) h2 Q5e (λk j p hj hp=>hx (k+1) j p Q5B (by simpa using hp));refine⟨⟨i,o,r,(r.rh,r.ms.map (·.1)),false⟩::S,⟨⟨λ_=>h1,λq hq=>hq,λq hq=>hq⟩,g1⟩,?_,?_,?_⟩
  .intro t ht;rcases xf.1 ht with rfl|ht
   .rfl
   .exact g2 t ht
  .intro t ht;rcases xf.1 ht with rfl|ht
   .exact hx 0 i o rfl rfl
   .exact g3 t ht
  .simp[feet,g4]
theorem qoh(hG:q32 P G){L:List Nat}{sl:Nat}{A:q45}{K:Nat->St->q45->Prop}(h:segK P G ops L sl st A K):
  ∃(S:List Stp)(s:St)(sl':Nat),q4g P ops S st s/\(∀t∈S,t.mu=false)/\(∀t∈S,ops[t.i]?=some t.o)/\K sl' s (A++S.map λt=>(t.i,t.f)):=by
 obtain⟨os,h1,h2,h3⟩:=qog h
 obtain⟨rs,s,ht,h4⟩:=qji hG h3
 have h5:=qbg (K:=λsl'=>K sl' s (A++List.zip L ((feet rs).reverse++[]).reverse)) h4
 obtain⟨S,g1,g2,g3,g4⟩:=qrq ht h1.symm h2
 refine⟨S,s,sl+qrn os,g1,g2,g3,?_⟩
 rw[g4]
 simpa using h5
theorem qjn{ops:List Oper}:∀{S:List Stp},(∀t∈S,ops[t.i]?=some t.o)->q6l ops (S.map λt=>(t.i,t.f))=true->q44 ops S
 | [],_,_=>λk l a b _ hk=>by simp at hk
 | t::S,ha,h=>by
  simp only[xk,q6l,xi] at h;have foot:∀c∈t::S,q62 ops (c.i,c.f)=q4b ops c:=λc hc=>by unfold q62 q4b;rw[qba,ha c hc]
  intro k l a b hkl hk hl;cases l with
  | zero=>omega
  | succ l=>
   have hl:S[l]?=some b:=by simpa using hl
   cases k with
   | zero=>
    simp at hk;subst hk;have:=xJ.1 h.1 (b.i,b.f) (xx.2 ⟨b,xy hl,rfl⟩);rw[foot t Q50,foot b (by simp[xy hl])] at this;simpa[qrk] using this
   | succ k=>exact qjn (λc hc=>ha c (by simp[hc])) h.2 k l a b Q4P Q5L hl
theorem qrr{ops:List Oper}:∀{S:List Stp},(∀t∈S,ops[t.i]?=some t.o)->qll (S.map λt=>t.i)=true->Own ops S
 | [],_,_=>⟨λk s h=>by simp at h,λk l a b hk=>by simp at hk⟩
 | t::S,ha,h=>by
  simp only[xk,qll,xi] at h;have ih:=qrr (λc hc=>ha c (by simp[hc])) h.2;have ne:∀(l:Nat)(b:Stp),S[l]?=some b->t.i≠b.i:=λl b hl e=>by
   have:=xJ.1 h.1 b.i (xx.2 ⟨b,xy hl,rfl⟩);rw[e] at this;simp at this
  refine⟨λk s hk=>ha s (xy hk),λk l a b hk hl e=>?_⟩;cases k with
  | zero=>
   simp at hk;subst hk;cases l with
   | zero=>rfl
   | succ l=>exact absurd e (ne l b Q5e)
  | succ k=>
   cases l with
   | zero=>simp at hl;subst hl;exact absurd e.symm (ne k a Q5L)
   | succ l=>rw[ih.inj k l a b Q5L Q5e e]
theorem qlm{P:Program}{G:Tys}{ops:List Oper}(hG:q32 P G){K:St->Prop}:∀{rest:List (Nat×List Nat)}{sl:Nat}{st:St}{A:q45},planK P G ops rest sl st A K->∀S:List Stp,(S.map λt=>(t.i,t.f))=A->(∀t∈S,ops[t.i]?=some t.o)->q61 P ops K rest S st
 | [],sl,st,A,h,S,hS,ha=>by
  obtain⟨h1,h2⟩:=N.out (show N (Obl (q92 ops A=true) (K st)) from h);subst hS;simp only[q92,xi,List.map_map] at h1;refine⟨qrr ha h1.2.1,qjn ha h1.1,λi hi=>?_,h2⟩;have:=xJ.1 h1.2.2 i Q59;obtain⟨x,hx,e⟩:=List.any_eq_true.1 this;obtain⟨t,ht,rfl⟩:=xx.1 hx;obtain⟨k,hk⟩:=List.getElem?_of_mem ht;exact⟨k,t,hk,by simpa using e⟩
 | (m,seg)::rest,sl,st,A,h,S,hS,ha=>by
  unfold planK at h;rw[qba] at h;split at h
  .rename_i om hm;obtain⟨hgd,h⟩:=qp8 h
   .rw[qba] at h;split at h
    .rename_i hs;obtain⟨q,hC,hM⟩:=qro hG hs h;subst hS;simp only[jap,xi,List.map_map] at hC;refine⟨om,q,hm,hgd,λt e1 e2 e3=>?_,λi hi=>?_,λst₂ h1 h2=>?_⟩
     .have ha':∀c∈S++[t],ops[c.i]?=some c.o:=λc hc=>by
       rcases yZ.1 hc with hc|hc
       .exact ha c hc
       .obtain rfl:=xQ.1 hc;rw[e1,e2];exact hm
      refine⟨qrr ha' ?_,qjn ha' ?_⟩
      .have:=hC.2.1;simp only[yS,xk,xZ,e1];exact this
      .have:=hC.1;simp only[yS,xk,xZ,e1,e3];exact this
     .have:=xJ.1 hC.2.2 i Q59;simp only[yE] at this;rcases this with h|h|h
      .obtain⟨x,hx,e⟩:=List.any_eq_true.1 h;obtain⟨t,ht,rfl⟩:=xx.1 hx;obtain⟨k,hk⟩:=List.getElem?_of_mem ht;exact .inl ⟨k,t,hk,by simpa using e⟩
      .exact .inr (.inl Q5J)
      .exact .inr (.inr h)
     .intro X ρ a w R next Q hn;refine hM st₂ h1 h2 X ρ a w R next Q λv ms ρ' x w' hF ha'=>hn v ms ρ' x w' ⟨hF.1,?_⟩ ha'
      have hk:=qbg (K:=λsl'=>segK P G ops seg sl' (st.after om.dst v ms) _ _) (qc1 hF.2);obtain⟨S2,s2,sl2,g1,g2,g3,g4⟩:=qoh hG hk;refine⟨S2,s2,g2,g1,qlm hG g4 _ Q50 λt ht=>?_⟩;rcases yZ.1 ht with ht|ht
      .exact ha t ht
      .rcases xf.1 ht with rfl|ht
       .exact hm
       .exact g3 t ht
    .exact h.elim
  .exact h.elim
def q8r(P:Program)(G:Tys)(ops:List Oper)(K:List Nat->List (Nat×List Nat)->Prop):Prop:=∃L rest,qbs ops 0=true/\K L rest
theorem Bp{K:List Nat->List (Nat×List Nat)->Prop}(L:List Nat)(rest:List (Nat×List Nat))(he:qbs ops 0=Bool.true)(k:K L rest):N (q8r P G ops K):=N.mk ⟨L,rest,he,k⟩
noncomputable def planA(P:Program)(G:Tys)(ops:List Oper)(sl:Nat)(st:St)(K:St->Prop):Prop:=
 N (q8r P G ops λL rest=>segK P G ops L sl st [] λsl' st' A=>planK P G ops rest sl' st' A K)
theorem qln{ops:Array Oper}(hG:q32 P G){sl:Nat}{K:St->Prop}(h:planA P G ops.toList sl st K)(hq:∀s ρ a w,K s->Rel X ρ s a w->Q .normal a w)(R:Rel X ρ st a w):wpAny P .any ops Q ops.size (Array.replicate ops.size false) a w:=by
 obtain⟨L,rest,he,h1⟩:=N.out h;obtain⟨S,s,sl',g1,g2,g3,g4⟩:=qoh hG h1;have hP:=qlm hG g4 S Q50 g3;obtain⟨o1,o2⟩:=qof hP;have h0:∀j,(Array.replicate ops.size false).getD j false=false:=λj=>Q2w
 refine qrm he hq rest S s hP o1 o2 g1 ops.size (List.range ops.size) _ ⟨by simp,List.nodup_range,by simp,λi hi=>?_,λi hi=>by simpa using hi,λj o _ h=>by rw[h0] at h;cases h⟩ (λk t hk hm=>?_) (λx _=>h0 _) ρ a w ?_
 .rw[h0];simp[hi]
 .rw[g2 t (xy hk)] at hm;cases hm
 .rw[qdg _ 0 st λi _=>?_]
  .exact R
  .unfold DL;split
   .exact h0 _
   .rfl
def qoi:Nat->(Hp->Prop)->Prop
 | 0,K=>K []
 | n+1,K=>qoi n λr=>K (none::r)
def q7i:Hp->Nat->(Hp->Prop)->Prop
 | [],n,K=>qoi n K
 | x::r,n,K=>q7i r n λr'=>K (x::r')
def q46:Hp->(Hp->Prop)->Prop
 | [],K=>K []
 | some c::r,K=>q46 r λr'=>K (some c::r')
 | none::r,K=>q46 r λr'=>match r' with
  | []=>K []
  | x::q=>K (none::x::q)
def qxq:List Oper->Nat
 | []=>1
 | o::os=>qbf o.op+qxq os
def SameH(h h':Hp):Prop:=∀(i:Nat)(c:Chunk),h'[i]?=some (some c)↔h[i]?=some (some c)
theorem qiu:∀{n:Nat}{K:Hp->Prop},qoi n K->∃h',SameH [] h'/\K h'
 | 0,K,h=>⟨[],λ_ _=>Iff.rfl,h⟩
 | n+1,K,h=>by
  obtain⟨h',hs,hk⟩:=qiu (n:=n) h;exact Q1c
theorem qoj:∀{h:Hp}{n:Nat}{K:Hp->Prop},q7i h n K->∃h',SameH h h'/\K h'
 | [],n,K,h=>qiu h
 | x::r,n,K,h=>by
  obtain⟨h',hs,hk⟩:=qoj (h:=r) (n:=n) h;exact Q1c
theorem qc9:∀{h:Hp}{K:Hp->Prop},q46 h K->∃h',SameH h h'/\K h'
 | [],K,h=>⟨[],λ_ _=>Iff.rfl,h⟩
 | some x::r,K,h=>by
  obtain⟨h',hs,hk⟩:=qc9 (h:=r) h;exact Q1c
 | none::r,K,h=>by
  obtain⟨h',hs,hk⟩:=qc9 (h:=r) h;split at hk
  .refine⟨[],λi c=>?_,hk⟩;cases i with
   | zero=>simp
   | succ i=>simpa using hs i c
  .exact Q1c
theorem SameH.fil{h h':Hp}(s:SameH h h')(i:Nat):Fil h' i↔Fil h i:=⟨fun⟨c,hc⟩=>⟨c,(s i c).1 hc⟩,fun⟨c,hc⟩=>⟨c,(s i c).2 hc⟩⟩
theorem HOK.same{h h':Hp}(H:HOK X ρ h w)(s:SameH h h'):HOK X ρ h' w:=by
 refine⟨H.evo,λi hi=>⟨(s.fil i).2 (H.base i hi).1,(H.base i hi).2⟩,λi c hi=>H.lt i c ((s i c).1 hi),λi c hi j hj=>?_,λi c hi=>H.own i c ((s i c).1 hi),λi c j d hi ho hj=>H.sep i c j d ((s i c).1 hi) ho ((s j d).1 hj),?_⟩
 .obtain⟨x,hx,hd⟩:=H.cell i c ((s i c).1 hi) j hj;exact Q2I
 .obtain⟨S,E⟩:=H.ext;exact E.less λi c hi=>⟨rfl,c,(s i c).1 hi,nlr _,.inr rfl⟩
theorem Rel.same{h':Hp}(R:Rel X ρ st a w)(s:SameH st.h h'):Rel X ρ ⟨st.t,h'⟩ a w:=by
 refine⟨R.defers,R.size,λi v hi=>?_,R.heap.same s⟩;obtain⟨x,hx,hd⟩:=R.slot i v hi;exact Q2I
def q4p:List Oper->List Bool
 | []=>[]
 | _::r=>false::q4p r
def q63:List Bool->Bool
 | []=>true
 | b::r=>b&&q63 r
def mayB(listed:List Bool)(es:List Edge):Bool:=match es with
 | []=>true
 | e::r=>(!Region.binds .any e||(match q4k listed e.on with
  | some b=>b
  | none=>false))&&mayB listed r
def q64:List Bool->Nat->(List Bool->Prop)->Prop
 | [],_,K=>K []
 | _::r,0,K=>K (true::r)
 | b::r,n+1,K=>q64 r n λr'=>K (b::r')
def q5y(listed:List Bool)(F:Nat->Oper->Prop):List Oper->List Bool->Nat->Prop
 | o::os,b::bs,k=>match !b&&mayB listed o.after.toList with
  | true=>N (q4c k (λk=>F k o)/\q5y listed F os bs (k+1))
  | false=>q5y listed F os bs (k+1)
 | _,_,_=>N True
def wpX(P:Program)(G:Tys)(ops:List Oper):Nat->List Bool->Nat->St->(St->Prop)->Prop
 | 0,listed,_,st,K=>match q63 listed with
  | true=>K st
  | false=>False
 | fuel+1,listed,sl,st,K=>match q63 listed with
  | true=>K st
  | false=>q5y listed (λk o=>match st with
   | ⟨t0,h0⟩=>match q4k h0 sl with
    | some none=>match o.guard with
     | none=>q43 P G o ⟨t0,h0⟩ sl λv ms _=>qb3 ⟨t0,h0⟩ o.dst v ms λst'=>q4c (sl+qbf o.op) λsl'=>q64 listed k λlisted'=>wpX P G ops fuel listed' sl' st' K
     | some _=>False
    | _=>False) ops listed 0
theorem qok:∀{l:List Bool},q63 l=true->∀i,i<l.length->l[i]?=some true
 | [],_,i,hi=>by simp at hi
 | b::r,h,i,hi=>by
  have h:(b&&q63 r)=true:=h;simp only[xi] at h;cases i with
  | zero=>simp[h.1]
  | succ i=>
   show r[i]?=some true;exact qok (l:=r) h.2 i (by simp only[yx] at hi;omega)
theorem qrs:∀{l:List Bool},q63 l=false->∃i:Nat,l[i]?=some false
 | [],h=>by cases h
 | b::r,h=>by
  cases b with
  | false=>exact⟨0,rfl⟩
  | true=>
   have h:(true&&q63 r)=false:=h;obtain⟨i,hi⟩:=qrs (l:=r) Q5J;exact⟨i+1,by simpa using hi⟩
theorem qlo:∀{l:List Bool}{n:Nat}{K:List Bool->Prop},q64 l n K->K (l.set n true)
 | [],n,K,h=>h
 | b::r,0,K,h=>h
 | b::r,n+1,K,h=>qlo (l:=r) (n:=n) h
theorem qrt{listed:List Bool}:∀{es:List Edge},(∀e∈es,Region.binds .any e=true->listed[e.on]?=some true)->mayB listed es=true
 | [],_=>rfl
 | e::r,h=>by
  have h1:=qrt (es:=r) λx hx=>h x (ym _ hx)
  show((!Region.binds .any e||_)&&mayB listed r)=true;rw[h1,Bool.and_true];cases hb:Region.binds .any e with
  | false=>rfl
  | true=>rw[qba,h e (yp ..) hb];rfl
theorem qlp{listed:List Bool}{F:Nat->Oper->Prop}:∀{os:List Oper}{bs:List Bool}{k:Nat},q5y listed F os bs k->∀(j:Nat)(o:Oper),os[j]?=some o->bs[j]?=some false->mayB listed o.after.toList=true->F (k+j) o
 | [],_,_,_,j,o,hj,_,_=>by simp at hj
 | o::os,[],_,_,j,_,_,hb,_=>by simp at hb
 | o::os,b::bs,k,h,j,o',hj,hb,hm=>by
  unfold q5y at h;cases j with
  | zero=>
   simp only[yn,Option.some.injEq] at hj hb;subst hj hb;rw[show(!false&&mayB listed o.after.toList)=true by rw[hm];rfl] at h;exact qbg (K:=λk=>F k o) h.out.1
  | succ j=>
   have h':q5y listed F os bs (k+1):=by
    split at h
    .exact h.out.2
    .exact h
   have:=qlp h' j o' Q5B (by simpa using hb) hm;rw[show k+1+j=k+(j+1) by omega] at this;exact this
theorem qf8:∀{l:List Oper},(q4p l).length=l.length
 | []=>rfl
 | _::r=>by show(q4p r).length+1=_;rw[qf8];rfl
theorem qiv:∀{l:List Oper}{i:Nat},i<l.length->(q4p l)[i]?=some false
 | [],i,h=>by simp at h
 | _::r,0,_=>rfl
 | _::r,i+1,h=>by
  show(q4p r)[i]?=some false;exact qiv (l:=r) (i:=i) (by simp only[yx] at h;omega)
theorem qy7{ops:Array Oper}(hG:q32 P G)(he:qbs ops.toList 0=true){K:St->Prop}(hq:∀s ρ a w,K s->Rel X ρ s a w->Q .normal a w):
  ∀(fuel:Nat)(listed:List Bool)(sl:Nat)(st:St),wpX P G ops.toList fuel listed sl st K->listed.length=ops.size->∀ρ a w,Rel X ρ st a w->wpAny P .any ops Q fuel listed.toArray a w:=by
 have full:∀{listed:List Bool},q63 listed=true->listed.length=ops.size->Region.ready .any ops listed.toArray=[]:=λ{listed} h hl=>by
  apply List.eq_nil_iff_forall_not_mem.2
  intro j hj
  obtain⟨o,h1,h2,_⟩:=qfi (listed:=listed.toArray) Q5e hj
  have hlt:=(xI.1 h1).1
  have:=qok h j Q4P
  simp[xY,this] at h2
 have open_:∀{listed:List Bool},q63 listed=false->listed.length=ops.size->Region.ready .any ops listed.toArray≠[]:=λ{listed} h hl hr=>by
  obtain⟨i,hi⟩:=qrs h
  have hlt:=(xe.1 hi).1
  have:=qoe he (listed:=listed.toArray) Q5e hr i Q4P
  simp[xY,hi] at this
 intro fuel
 induction fuel with
 | zero=>
  intro listed sl st h hl ρ a w R;unfold wpX at h;split at h
  .rename_i hb;exact⟨full hb hl,hq _ _ _ _ h R⟩
  .exact h.elim
 | succ fuel ih=>
  intro listed sl st h hl ρ a w R;unfold wpX at h;split at h
  .rename_i hb;refine⟨λ_=>hq _ _ _ _ h R,λi hi=>?_⟩;rw[full hb hl] at hi;cases hi
  .rename_i hb;refine⟨λhr=>absurd hr (open_ hb hl),λi hi=>?_⟩;obtain⟨o,h1,h2,h3⟩:=qfi (listed:=listed.toArray) Q5e hi;have hlt:=(xI.1 h1).1;have hfi:listed[i]?=some false:=by
    have hx:listed[i]?=some listed[i]:=xn Q4P;simp only[xY,yP,hx,yw] at h2;rw[hx,h2]
   have hF:=qlp h i o (by simpa using h1) hfi (qrt λe hee hbe=>by
    have:=h3 e hee hbe;simp only[xY,yP] at this;cases hx:listed[e.on]? with
    | none=>rw[hx] at this;cases this
    | some b=>rw[hx] at this;simp only[yw] at this;rw[this])
   rw[xl] at hF;obtain⟨t0,h0⟩:=st;simp only at hF;rw[qba] at hF;split at hF
   .rename_i hs;split at hF
    .rename_i hg;obtain⟨v,ms,rh,hok,hk⟩:=qfe hG hs hF;have hk:=qlo (qbg (K:=λsl'=>q64 listed i λlisted'=>wpX P G ops.toList fuel listed' sl' _ K) (qc1 hk));unfold wpOp;rw[h1];have hw:Region.wanted o (yielded ops a.tmps)=true:=by
      unfold Region.wanted;rw[hg]
     simp only;rw[if_pos hw];refine .inl (hok.here X ρ a w R _ _ λρ' x w' ha=>?_);have hset:listed.toArray.setIfInBounds i true=(listed.set i true).toArray:=by simp
     rw[hset];exact ih _ _ _ hk Q5e ρ' _ _ (qdy R ha)
    .exact hF.elim
   .exact hF.elim
def jch(P:Program)(G:Tys)(ops:List Oper)(sl:Nat)(st:St)(K:St->Prop):Prop:=
 qbs ops 0=true/\∃s0:St,wpX P G ops ops.length (q4p ops) sl st (λs=>match s with
  | ⟨t,h1⟩=>q46 h1 λh'=>N ((⟨t,h'⟩:St)=s0))/\K s0
noncomputable def regK(P:Program)(G:Tys)(ops:Array Oper)(draw:Bool)(st:St)(K:St->Prop):Prop:=
 match st with
 | ⟨t0,h0⟩=>q7i h0 (qxq ops.toList) λh=>q4c h0.length λsl=>match draw with
  | false=>wpQ P G ops.toList ops.toList sl ⟨t0,h⟩ λs=>match s with
   | ⟨t,h1⟩=>q46 h1 λh'=>K ⟨t,h'⟩
  | true=>match jad ops.toList with
   | false=>match entB ops.toList with
    | false=>jao (callB ops.toList) (wpR P G ops.toList ops.toList sl ⟨t0,h⟩ [] λs acc=>match s with
      | ⟨t,h1⟩=>q46 h1 λh'=>N (Obl (qli ops.toList acc.reverse=true/\qbs ops.toList 0=true) (K ⟨t,h'⟩)))
     (planA P G ops.toList sl ⟨t0,h⟩ λs=>match s with
      | ⟨t,h1⟩=>q46 h1 λh'=>K ⟨t,h'⟩)
    | true=>N (jch P G ops.toList sl ⟨t0,h⟩ K)
   | true=>planA P G ops.toList sl ⟨t0,h⟩ λs=>match s with
    | ⟨t,h1⟩=>q46 h1 λh'=>K ⟨t,h'⟩
section
variable{P:Program}{G:Tys}
variable{st:St}{Q:Exit->Act->World->Prop}{ρ:Rz}{a:Act}{w:World}
theorem qy8{ops:Array Oper}{draw:Bool}{K:St->Prop}{id:Nat}{X:Ctx}(hG:q32 P G)(hm:P.follows .mixedOrders=true)(h:regK P G ops draw st K)(hq:∀s ρ a w,K s->Rel X ρ s a w->Q .normal a w)(R:Rel X ρ st a w):
  (Code.region id ops draw).wp P Q a w:=by
 obtain⟨t0,h0⟩:=st
 obtain⟨h1,hs1,h⟩:=qoj h
 have R1:=R.same hs1
 cases draw with
 | false=>
  have h:=qbg (K:=λsl=>wpQ P G ops.toList ops.toList sl ⟨t0,h1⟩ _) h;refine wp_region ?_;rw[y8];refine qrg (X:=X) hG (λs ρ a w hk R'=>?_) ops.toList _ 0 _ h (λi _=>by simp) ρ a w R1;exact Q2f
 | true=>
  have h:=qbg (K:=λsl=>match jad ops.toList with
   | false=>match entB ops.toList with
    | false=>jao (callB ops.toList) (wpR P G ops.toList ops.toList sl ⟨t0,h1⟩ [] _) (planA P G ops.toList sl ⟨t0,h1⟩ _)
    | true=>N (jch P G ops.toList sl ⟨t0,h1⟩ K)
   | true=>planA P G ops.toList sl ⟨t0,h1⟩ _) h
  split at h
  .split at h
   .rcases qva h with h|h
    .obtain⟨rs,s,ht,h⟩:=qji hG h;obtain⟨t2,h3⟩:=s;obtain⟨h2,hs2,h⟩:=qc9 h;obtain⟨⟨hc,he⟩,h⟩:=h.out;refine wp_region_any hm ?_;have hc':qli ops.toList (feet rs)=true:=by simpa using hc
     refine qrh (X:=X) (st':=⟨t2,h3⟩) (ρ:=ρ) ht hc' he (λρ a w R'=>hq _ ρ a w h (R'.same hs2)) ?_;exact⟨R1.defers,R1.size,R1.slot,R1.heap.drew⟩
    .exact Q1d
   .obtain⟨he,s0,h,k0⟩:=h.out;refine wp_region_any hm ?_;have:=qy7 (X:=X) (ops:=ops) hG he (Q:=Q) (K:=λs=>match s with
     | ⟨t,h1⟩=>q46 h1 λh'=>N ((⟨t,h'⟩:St)=s0)) (λs ρ a w hk R'=>by
      obtain⟨t2,h3⟩:=s;obtain⟨h2,hs2,hk⟩:=qc9 hk;have hk:=hk.out;subst hk;exact hq _ ρ a w k0 (R'.same hs2)) _ _ _ _ h (by rw[qf8];simp) ρ a _ ⟨R1.defers,R1.size,R1.slot,R1.heap.drew⟩
    have hfa:(q4p ops.toList).toArray=Array.replicate ops.size false:=by
     apply y6;intro i;rw[Array.getElem?_replicate,yP];split
     .rename_i hi;exact qiv Q59
     .rename_i hi;exact yA (by rw[qf8];simpa using hi)
    rw[hfa] at this;simpa using this
  .exact Q1d
def q7j(F:Nat->Prop)(v:Value):Prop:=∀ρ ρ',AgreeOn F ρ ρ'->den ρ' v=den ρ v
def qru(F:Nat->Prop)(v:Value):Prop:=∀ρ ρ',AgreeOn F ρ ρ'->den1 ρ' v=den1 ρ v
structure Wk(n0:Nat)(st s:St):Prop where
 len:s.t.length=st.t.length
 slot:∀(i:Nat)(v:Value),s.t[i]?=some (some v)->st.t[i]?=some (some v)
 chunk:∀(i:Nat)(c:Chunk),s.h[i]?=some (some c)->∃d,st.h[i]?=some (some d)/\(c.own=true->d.own=true)/\c.n<=d.n/\(∀j,j<c.n->c.f j=d.f j)/\(c.x=Ext.none\/c.x=d.x)
 base:∀i,i<n0->Fil st.h i->Fil s.h i
 scope:(∀i,Fil st.h i->Fil s.h i)\/((∀(i:Nat)(v:Value),s.t[i]?=some (some v)->q7j (Fil s.h) v)/\∀(i:Nat)(c:Chunk),s.h[i]?=some (some c)->∀j,j<c.n->qru (Fil s.h) (c.f j))
theorem Wk.refl(n0:Nat)(st:St):Wk n0 st st:=⟨rfl,λ_ _ h=>h,λi c h=>⟨c,h,id,nlr _,λ_ _=>rfl,.inr rfl⟩,λ_ _ h=>h,.inl λ_ h=>h⟩
theorem Wk.rel{X:Ctx}{s:St}(h:Wk X.n0 st s)(R:Rel X ρ st a w):Rel X ρ s a w:=by
 have fil:∀i,Fil s.h i->Fil st.h i:=λi ⟨c,hc⟩=>by obtain⟨d,hd,_⟩:=h.chunk i c hc;exact⟨d,hd⟩
 refine⟨R.defers,R.size.trans h.len.symm,λi v hi=>?_,R.heap.evo,λi hi=>⟨h.base i hi (R.heap.base i hi).1,(R.heap.base i hi).2⟩,λi c hi=>?_,λi c hi j hj=>?_,λi c hi ho j hj=>?_,λi c j d hi ho hj hne=>?_,?_⟩
 .obtain⟨x,hx,hd⟩:=R.slot i v (h.slot i v hi);refine⟨x,hx,?_⟩;rcases h.scope with hs|⟨hs,_⟩
  .exact hd.more (AgreeOn.refl _ _) hs
  .exact λr hr=>(hs i v hi ρ r hr).trans hd.self
 .obtain⟨d,hd,_⟩:=h.chunk i c hi;exact R.heap.lt i d hd
 .obtain⟨d,hd,_,hn,hf,_⟩:=h.chunk i c hi;obtain⟨x,hx,hxd⟩:=R.heap.cell i d hd j (xh hj hn);refine⟨x,hx,?_⟩;rcases h.scope with hs|⟨_,hs⟩
  .rw[hf j hj];exact hxd.more (AgreeOn.refl _ _) hs
  .exact λr hr=>(hs i c hi j hj ρ r hr).trans (by rw[hf j hj];exact hxd.self)
 .obtain⟨d,hd,hod,hn,hf,_⟩:=h.chunk i c hi;exact R.heap.own i d hd (hod ho) j (xh hj hn)
 .obtain⟨c',hc',hoc,_⟩:=h.chunk i c hi;obtain⟨d',hd',_⟩:=h.chunk j d hj;exact R.heap.sep i c' j d' hc' (hoc ho) hd' hne
 .obtain⟨S,E⟩:=R.heap.ext;exact E.less λi c hi=>by
   obtain⟨d,hd,_,hn,_,hx⟩:=h.chunk i c hi;exact⟨rfl,d,hd,hn,hx⟩
def Wkg(n0:Nat)(st s:St):Prop:=∀(X:Ctx)(ρ:Rz)(a:Act)(w:World),X.n0=n0->Rel X ρ st a w->∃ρ',Rel X ρ' s a w
theorem Wk.g{n0:Nat}{s:St}(h:Wk n0 st s):Wkg n0 st s:=λX ρ a w hn R=>⟨ρ,by subst hn;exact h.rel R⟩
def thenQ(K:St->Prop)(Q:Exit->St->Prop):Exit->St->Prop
 | .normal,st=>K st
 | e,st=>Q e st
def qxr(id:Nat)(Q:Exit->St->Prop):Exit->St->Prop
 | .exit i,st=>match Nat.beq i id with
  | true=>Q .normal st
  | false=>Q (.exit i) st
 | e,st=>Q e st
def Lift(X:Ctx)(Q:Exit->St->Prop):Exit->Act->World->Prop:=λe a w=>∃ρ s,Rel X ρ s a w/\Q e s
def q8s(P:Program)(n0:Nat)(c:Code)(Q:Exit->St->Prop)(st:St):Prop:=∀X:Ctx,X.n0=n0->∀ρ a w,Rel X ρ st a w->c.wp P (Lift X Q) a w
def qrv(Q:Exit->St->Prop):Exit->St->Prop
 | .goto _,_=>False
 | e,st=>Q e st
def jaq(P:Program)(n0:Nat)(c:Code)(l:Nat)(Q:Exit->St->Prop)(st:St):Prop:=
 ∃(α:Type)(mk:Nat->α->St)(μ:Nat->α->Nat)(ok:Nat->α->Prop)(nx:Nat->α->Nat->St->Prop),(∀l x l' s,nx l x l' s->∃y,ok l' y/\Wkg n0 s (mk l' y)/\μ l' y<μ l x)/\(∃x,ok l x/\Wkg n0 st (mk l x))/\∀l x,ok l x->∃r,findLabel c l=some r/\q8s P n0 r (λe s=>match e with|.goto l'=>nx l x l' s|e=>Q e s) (mk l x)
def q8t(P:Program)(n0:Nat)(c r:Code)(l:Nat)(Q:Exit->St->Prop)(st:St):Prop:=q8s P n0 r (qrv Q) st\/jaq P n0 c l Q st
def qxs(P:Program)(n0:Nat)(c:Code)(Q:Exit->St->Prop):Exit->St->Prop
 | .goto l,st=>match findLabel c l with
  | some r=>N (q8t P n0 c r l Q st)
  | none=>False
 | e,st=>Q e st
def qm8(P:Program)(c:Code)(l:Nat)(Q:Exit->Act->World->Prop)(a:Act)(w:World):Prop:=
 ∀(b:Frame)(k:List Item)(cs:List Frame),∃r e a' w',findLabel c l=some r/\Q e a' w'/\Arrives P (lone (b.at a (.code r :: .inScope c::k)) cs w) b k cs e a' w'
variable{c:Code}
theorem qlq{P:Program}{r:Code}{l:Nat}(hf:findLabel c l=some r)(hr:r.wp P (Exit.noGoto Q) a w):qm8 P c l Q a w:=λb k cs=>by
 obtain⟨e₂,a₂,w₂,hq₂,harr₂⟩:=hr b (.inScope c::k) cs;cases e₂ with
 | normal=>exact⟨r,.normal,a₂,w₂,hf,hq₂,Steps.trans harr₂ (.one step_inScope)⟩
 | exit id=>exact⟨r,.exit id,a₂,w₂,hf,hq₂,λk' hk=>harr₂ k' (by simp[exitTo,hk])⟩
 | goto l=>exact hq₂.elim
 | ret=>exact⟨r,_,a₂,w₂,hf,hq₂,harr₂⟩
 | panic ch=>exact⟨r,_,a₂,w₂,hf,hq₂,harr₂⟩
 | outgrown=>exact⟨r,_,a₂,w₂,hf,hq₂,harr₂⟩
theorem qlr{P:Program}{α:Type}(J:Nat->α->Act->World->Prop)(μ:Nat->α->Nat)
  (hJ:∀l x a w,J l x a w->∃r,findLabel c l=some r/\r.wp P (λe a' w'=>match e with|.goto l'=>∃y,J l' y a' w'/\μ l' y<μ l x|e=>Q e a' w') a w):∀(n l:Nat)(x:α)(a:Act)(w:World),μ l x<n->J l x a w->qm8 P c l Q a w:=by
 intro n
 induction n with
 | zero=>intro l x a w h;exact absurd h (xS _)
 | succ n ih=>
  intro l x a w hn hj b k cs;obtain⟨r,hf,hr⟩:=hJ l x a w hj;obtain⟨e₂,a₂,w₂,hq₂,harr₂⟩:=hr b (.inScope c::k) cs;cases e₂ with
  | normal=>exact⟨r,.normal,a₂,w₂,hf,hq₂,Steps.trans harr₂ (.one step_inScope)⟩
  | exit id=>exact⟨r,.exit id,a₂,w₂,hf,hq₂,λk' hk=>harr₂ k' (by simp[exitTo,hk])⟩
  | goto l'=>
   obtain⟨y,hy,hlt⟩:=hq₂;obtain⟨r₂,e₃,a₃,w₃,hf₂,hq₃,harr₃⟩:=ih l' y a₂ w₂ Q4P hy b k cs;have hg:gotoIn l' (.inScope c::k)=some (.code r₂ :: .inScope c::k):=by simp[gotoIn,hf₂]
   exact⟨r,e₃,a₃,w₃,hf,hq₃,.of_steps (harr₂ _ hg) harr₃⟩
  | ret=>exact⟨r,_,a₂,w₂,hf,hq₂,harr₂⟩
  | panic ch=>exact⟨r,_,a₂,w₂,hf,hq₂,harr₂⟩
  | outgrown=>exact⟨r,_,a₂,w₂,hf,hq₂,harr₂⟩
theorem qls{P:Program}(h:c.wp P (λe a w=>match e with
  | .goto l=>qm8 P c l Q a w
  | e=>Q e a w) a w):(Code.scope c).wp P Q a w:=by
 intro b k cs
 obtain⟨e,a₁,w₁,hq,harr⟩:=h b (.inScope c::k) cs
 cases e with
 | normal=>exact⟨.normal,a₁,w₁,hq,.head step_scope (Steps.trans harr (.one step_inScope))⟩
 | exit id=>exact⟨.exit id,a₁,w₁,hq,λk' hk=>.head step_scope (harr k' (by simp[exitTo,hk]))⟩
 | goto l=>
  obtain⟨r,e₂,a₂,w₂,hf,hq₂,harr₂⟩:=hq b k cs;have hg:gotoIn l (.inScope c::k)=some (.code r :: .inScope c::k):=by simp[gotoIn,hf]
  exact⟨e₂,a₂,w₂,hq₂,.of_steps (Steps.trans (Steps.one step_scope) (harr _ hg)) harr₂⟩
 | ret=>exact⟨_,a₁,w₁,hq,.of_steps (.one step_scope) harr⟩
 | panic ch=>exact⟨_,a₁,w₁,hq,.of_steps (.one step_scope) harr⟩
 | outgrown=>exact⟨_,a₁,w₁,hq,.of_steps (.one step_scope) harr⟩
def q5z(P:Program)(G:Tys)(n0:Nat)(c:Code)(B:(Exit->St->Prop)->St->Prop)(Q:Exit->St->Prop)(st:St):Prop:=
 ∃(α:Type)(mk:α->St)(inv:α->Prop)(μ:α->Nat)(nx:α->St->Prop),(∀x s,nx x s->∃y,inv y/\Wkg n0 s (mk y)/\μ y<μ x)/\(∃x,inv x/\Wkg n0 st (mk x))/\∀x,inv x->B (thenQ (nx x) Q) (mk x)
abbrev q4h:=(Exit->St->Prop)->St->Prop
def jar(A B:q4h):q4h:=λQ st=>A (thenQ (B Q) Q) st
def qrw(c:Operand)(A B:q4h):q4h:=λQ st=>
 match st with
 | ⟨t0,h0⟩=>match c with
  | .tmp t=>q6w t0 t λg=>match g with
   | .bool b=>N (q6v b (q6g t0 t (.bool true) λl=>A Q ⟨l,h0⟩) (q6g t0 t (.bool false) λl=>B Q ⟨l,h0⟩))
   | _=>False
  | .const (.bool true)=>A Q ⟨t0,h0⟩
  | .const (.bool false)=>B Q ⟨t0,h0⟩
  | _=>False
def qy9(id:Nat)(A:q4h):q4h:=λQ st=>A (qxr id Q) st
def q1l(P:Program)(G:Tys)(n0:Nat)(c:Code)(A:q4h):q4h:=λQ st=>N (q5z P G n0 c A Q st)
def qza(P:Program)(n0:Nat)(c:Code)(A:q4h):q4h:=λQ st=>A (qxs P n0 c Q) st
noncomputable def wpC(P:Program)(G:Tys)(n0:Nat)(c:Code):q4h:=
 Code.rec (motive:=λ_=>q4h) (λQ st=>Q .normal st) (λ_ ops draw Q st=>regK P G ops draw st (Q .normal)) (λ_ _ A B=>jar A B) (λc _ _ A B=>qrw c A B) (λid _ A=>qy9 id A) (λc A=>q1l P G n0 c A)
  (λ_ _ _ _ _ _ _ _=>False) (λid Q st=>Q (.exit id) st) (λc A=>qza P n0 c A) (λ_ Q st=>Q .normal st) (λl Q st=>Q (.goto l) st) (λQ st=>Q .ret st) (λ_ _ _=>False) c
theorem qrx(hG:q32 P G)(hm:P.follows .mixedOrders=true)(X:Ctx):∀(c:Code)(Q:Exit->St->Prop)(st:St),wpC P G X.n0 c Q st->∀ρ a w,Rel X ρ st a w->c.wp P (Lift X Q) a w:=by
 intro c
 induction c with
 | skip=>exact λQ st h ρ a w R=>wp_skip ⟨ρ,st,R,h⟩
 | label l=>exact λQ st h ρ a w R=>wp_label ⟨ρ,st,R,h⟩
 | region id ops draw=>exact λQ st h ρ a w R=>qy8 (X:=X) hG hm h (λs ρ a w hk R'=>⟨ρ,s,R',hk⟩) R
 | seq x y ihx ihy=>
  intro Q st h ρ a w R;refine wp_seq (wp_mono (ihx _ _ h ρ a w R) ?_);rintro e a' w' ⟨ρ',s,R',hq⟩;cases e with
  | normal=>exact ihy Q s hq ρ' a' w' R'
  | _=>exact⟨ρ',s,R',hq⟩
 | cond c x y ihx ihy=>
  intro Q st h ρ a w R;obtain⟨t0,h0⟩:=st;cases c with
  | tmp t=>
   have h:qrw (.tmp t) (wpC P G X.n0 x) (wpC P G X.n0 y) Q ⟨t0,h0⟩:=h;unfold qrw at h;simp only at h;obtain⟨g,hg,h⟩:=qcq (l:=t0) (n:=t) h;split at h
   .rename_i b;obtain⟨z,hz,hzd⟩:=R.slot t _ hg;have hzb:z=.bool b:=hzd.self.symm;have he:a.eval (.tmp t)=.bool b:=by simp[Act.eval,xY,hz,hzb]
    have h:=h.out;refine wp_cond_split he (λe=>?_) (λe=>?_)
    .subst e;have h:=qcr (K:=λl=>wpC P G X.n0 x Q ⟨l,h0⟩) (h.1 rfl);rw[qer hg] at h;exact ihx Q ⟨t0,h0⟩ h ρ a w R
    .subst e;have h:=qcr (K:=λl=>wpC P G X.n0 y Q ⟨l,h0⟩) (h.2 rfl);rw[qer hg] at h;exact ihy Q ⟨t0,h0⟩ h ρ a w R
   .exact h.elim
  | const v=>
   cases v with
   | bool b=>
    cases b with
    | true=>exact wp_cond_true rfl (ihx Q ⟨t0,h0⟩ h ρ a w R)
    | false=>exact wp_cond_false rfl (ihy Q ⟨t0,h0⟩ h ρ a w R)
   | _=>exact h.elim
  | _=>exact h.elim
 | block id c ih=>
  intro Q st h ρ a w R;refine wp_block (wp_mono (ih _ _ h ρ a w R) ?_);rintro e a' w' ⟨ρ',s,R',hq⟩;cases e with
  | exit i=>
   simp only[qxr] at hq;simp only[Exit.inBlock];cases hb:Nat.beq i id with
   | true=>
    rw[hb] at hq;have:=xF hb;rw[if_pos this];exact⟨ρ',s,R',hq⟩
   | false=>
    rw[hb] at hq;have:i≠id:=λe=>by subst e;rw[Nat.beq_refl] at hb;cases hb
    rw[if_neg this];exact⟨ρ',s,R',hq⟩
  | _=>exact⟨ρ',s,R',hq⟩
 | loop c ih=>
  intro Q st h ρ a w R;obtain⟨α,mk,inv,μ,nx,hnx,⟨x0,hx0,hw0⟩,hr⟩:=N.out h;intro b k cs;have key:∀n x ρ a w,μ x=n->inv x->Rel X ρ (mk x) a w->
    ∃e a' w',Lift X Q e a' w'/\Arrives P (lone (b.at a (.code c :: .inLoop c::k)) cs w) b k cs e a' w':=by
   intro n
   induction n using Nat.strongRecOn with
   | _ n ihn=>
    intro x ρ a w hn hx R;obtain⟨e,a₁,w₁,⟨ρ₁,s,R₁,hq⟩,harr⟩:=ih _ _ (hr x hx) ρ a w R b (.inLoop c::k) cs;cases e with
    | normal=>
     obtain⟨y,hy,hwk,hlt⟩:=hnx _ _ hq;obtain⟨ρ₂,R₂⟩:=hwk X ρ₁ a₁ w₁ rfl R₁;obtain⟨e₂,a₂,w₂,hq₂,harr₂⟩:=ihn (μ y) (hn▸hlt) y ρ₂ a₁ w₁ rfl hy R₂;exact⟨e₂,a₂,w₂,hq₂,.of_steps (Steps.trans harr (.one step_inLoop)) harr₂⟩
    | exit id=>exact⟨_,a₁,w₁,⟨ρ₁,s,R₁,hq⟩,.pass (x:=.inLoop c) rfl (λ_ _=>.inl Q50) harr⟩
    | goto l=>exact⟨_,a₁,w₁,⟨ρ₁,s,R₁,hq⟩,.pass (x:=.inLoop c) rfl (λ_ _=>.inl Q50) harr⟩
    | ret=>exact⟨_,a₁,w₁,⟨ρ₁,s,R₁,hq⟩,.pass (x:=.inLoop c) rfl (λ_ _=>.inl Q50) harr⟩
    | panic ch=>exact⟨_,a₁,w₁,⟨ρ₁,s,R₁,hq⟩,.pass (x:=.inLoop c) rfl (λ_ _=>.inl Q50) harr⟩
    | outgrown=>exact⟨_,a₁,w₁,⟨ρ₁,s,R₁,hq⟩,.pass (x:=.inLoop c) rfl (λ_ _=>.inl Q50) harr⟩
  obtain⟨ρ₀,R₀⟩:=hw0 X ρ a w rfl R;obtain⟨e,a',w',hq,harr⟩:=key _ x0 ρ₀ a w rfl hx0 R₀;exact⟨e,a',w',hq,.of_steps (.one step_loop) harr⟩
 | exit id=>exact λQ st h ρ a w R=>wp_exit ⟨ρ,st,R,h⟩
 | scope c ih=>
  intro Q st h ρ a w R;refine qls (wp_mono (ih _ _ h ρ a w R) ?_);rintro e a' w' ⟨ρ',s,R',hq⟩;cases e with
  | goto l=>
   simp only[qxs] at hq;split at hq
   .rename_i r hr;rcases N.out hq with hq|⟨α,mk,μ,ok,nx,hn,⟨x0,hx0,hw0⟩,hall⟩
    .refine qlq hr (wp_mono (hq X rfl ρ' a' w' R') ?_);rintro e a2 w2 ⟨ρ2,s2,R2,hq2⟩;cases e with
     | goto l=>exact hq2.elim
     | _=>exact⟨ρ2,s2,R2,hq2⟩
    .obtain⟨ρ₀,R₀⟩:=hw0 X ρ' a' w' rfl R';refine qlr (λl x a w=>ok l x/\∃ρ,Rel X ρ (mk l x) a w) μ (λl x a w hj=>?_) _ l x0 a' w' (yH _) ⟨hx0,ρ₀,R₀⟩;obtain⟨hok,ρ1,R1⟩:=hj;obtain⟨r1,hf1,hr1⟩:=hall l x hok;refine⟨r1,hf1,wp_mono (hr1 X rfl ρ1 a w R1) ?_⟩;rintro e a2 w2 ⟨ρ2,s2,R2,hq2⟩;cases e with
     | goto l'=>
      obtain⟨y,hy,hwy,hlt⟩:=hn _ _ _ _ hq2;obtain⟨ρ3,R3⟩:=hwy X ρ2 a2 w2 rfl R2;exact⟨y,⟨hy,ρ3,R3⟩,hlt⟩
     | _=>exact⟨ρ2,s2,R2,hq2⟩
   .exact hq.elim
  | _=>exact⟨ρ',s,R',hq⟩
 | goto l=>exact λQ st h ρ a w R=>wp_goto ⟨ρ,st,R,h⟩
 | ret=>exact λQ st h ρ a w R=>wp_ret ⟨ρ,st,R,h⟩
 | _=>exact λQ st h=>h.elim
theorem N.goto{n0:Nat}{r:Code}{l:Nat}{Q:Exit->St->Prop}(hG:q32 P G)(hm:P.follows .mixedOrders=true)(h:wpC P G n0 r (qrv Q) st):N (q8t P n0 c r l Q st):=N.mk (.inl λX hX ρ a w R=>by
 subst hX;exact qrx hG hm X r (qrv Q) st h ρ a w R)
end
open Go Go.RowKit
abbrev q93:=St->(List Value->Prop)->Prop
def jas(G:Tys)(r:ResultVar)(ih:q93):q93:=λst K=>
 match st with
 | ⟨t0,h0⟩=>match r with
  | .tmp t=>q6w t0 t λv=>ih ⟨t0,h0⟩ λvs=>K (v::vs)
  | .cell t ty=>q6w t0 t λp=>match p with
   | .pointer (some ⟨i,f,some s⟩)=>q42 h0 i λc=>q3y G ty λti d=>q6k c f s (qco d) ti.size λv=>ih ⟨t0,h0⟩ λvs=>K (v::vs)
   | _=>False
noncomputable def resK(G:Tys)(rs:List ResultVar):q93:=List.rec (motive:=λ_=>q93) (λ_ K=>K []) (λr _ ih=>jas G r ih) rs
def tup2(v:Value):Bool:=
 match v with
 | .tuple _=>false
 | _=>true
noncomputable def retK(P:Program)(G:Tys)(rs:List ResultVar)(st:St)(K:Value->Prop):Prop:=
 resK G rs st λvs=>match vs with
  | [v]=>K v
  | vs=>match vs.all tup2 with
   | true=>K (.tuple ⟨vs⟩)
   | false=>False
section
variable{P:Program}{G:Tys}
variable{ρ:Rz}
theorem qm9{X:Ctx}{st:St}{a:Act}{w:World}{t:TypeId}{i f s:Nat}{c:Chunk}{ti:TypeInfo}{d:TypeDesc}{v x:Value}(R:Rel X ρ st a w)(hx:Den (Fil st.h) ρ (.pointer (some ⟨i,f,some s⟩)) x)(hi:st.h[i]?=some (some c))
  (h1:P.info? t=some ti) (h2:P.underlying t=some d) (hr:Reads c f (qco d) ti.size v):∃y,(do loadVar t (<-asAddr x):Sem Value).run P w=.ok y w/\Den (Fil st.h) ρ v y:=by
 have hx':x=.pointer (some ⟨(ρ i).1,(ρ i).2+f,none⟩):=hx.self.symm
 cases hd:qco d with
 | false=>
  rw[hd] at hr;obtain⟨hl,hv,hf⟩:=hr;obtain⟨y,hy,hyd⟩:=R.heap.cell i c hi f hl;refine⟨y,?_,by rw[hf] at hyd;exact Den.of_one hyd hv⟩;simp only[hx',asAddr,loadVar,Sem.run_bind,Sem.run_pure,Result.andThen_ok,qcf h2,hd,xC,if_false,run_load,hy]
 | true=>
  rw[hd] at hr;obtain⟨hl,cs,rfl,hn,hf⟩:=hr;have hcell:∀j,(hj:j<cs.toList.length)->∃y,w.cell? ⟨(ρ i).1,(ρ i).2+(f+j),none⟩=some y/\Den1 (Fil st.h) ρ cs.toList[j] y:=λj hj=>by
   obtain⟨y,hy,hyd⟩:=R.heap.cell i c hi (f+j) Q4P;have e:=hf j Q4P;rw[xL,xn hj] at e;simp only[yw] at e;rw[e] at hyd;exact⟨y,hy,hyd⟩
  have hcells:∀j v,(cs.toList.map (den1 ρ))[j]?=some v->w.cell? ((⟨(ρ i).1,(ρ i).2+f,none⟩:Addr).add j)=some v:=λj v hv=>by
   have hj:j<cs.toList.length:=by have:=(xe.1 hv).1;simpa using this
   rw[xN,xn hj] at hv;obtain⟨y,hy,hyd⟩:=hcell j hj;rw[qb7,xX,hy,<-hyd.self];exact hv
  have hlen:ti.size=(cs.toList.map (den1 ρ)).length:=by rw[yN,hn]
  refine⟨.agg (cs.map (den1 ρ)),?_,λr hr=>?_⟩
  .simp only[hx',asAddr,loadVar,Sem.run_bind,Sem.run_pure,Result.andThen_ok,qcf h2,hd,if_true,run_sizeOf h1];rw[hlen,run_loadCells_list _ _ _ hcells];simp only[Result.andThen_ok,Result.ok.injEq,Value.agg.injEq,and_true];apply xw.1;simp
  .refine Q2p ?_;apply xw.1;rw[xp,xp];apply xT;intro u hu;obtain⟨j,hj,he⟩:=yB hu;obtain⟨y,hy,hyd⟩:=hcell j hj;rw[he] at hyd;rw[hyd r hr,hyd.self]
def resF(a:Act)(r:ResultVar):Sem Value:=
 match r with
 | .tmp t=>pure (a.tmps.getD t undef)
 | .cell p t=>do loadVar t (<-asAddr (a.tmps.getD p undef))
theorem qna(hG:q32 P G){t0:List (Option Value)}{h0:Hp}:∀{rs:List ResultVar}{K:List Value->Prop},resK G rs ⟨t0,h0⟩ K->∃vs,K vs/\∀X ρ a w,Rel X ρ ⟨t0,h0⟩ a w->∃xs,(rs.mapM (resF a):Sem (List Value)).run P w=.ok xs w/\All2 (Den (Fil h0) ρ) vs xs
 | [],K,h=>⟨[],h,λX ρ a w R=>⟨[],rfl,xb⟩⟩
 | .tmp t::r,K,h=>by
  obtain⟨v,hv,h⟩:=qcq (l:=t0) (n:=t) h;obtain⟨vs,hk,hr⟩:=qna hG h;refine⟨_,hk,λX ρ a w R=>?_⟩;obtain⟨xs,hx,hd⟩:=hr X ρ a w R;obtain⟨y,hy,hyd⟩:=R.slot t v hv;refine⟨y::xs,?_,hyd,hd⟩;have hy':a.tmps.getD t undef=y:=by rw[xY,hy];rfl
  rw[List.mapM_cons,show resF a (.tmp t)=pure (a.tmps.getD t undef) from rfl,hy',Sem.run_bind,Sem.run_pure];simp only[Result.andThen_ok,Sem.run_bind,hx,Sem.run_pure]
 | .cell t ty::r,K,h=>by
  obtain⟨p,hp,h⟩:=qcq (l:=t0) (n:=t) h;split at h
  .obtain⟨c,hc,h⟩:=qa9 h;obtain⟨ti,d,h1,h2,h⟩:=qak hG h;obtain⟨v,hv,h⟩:=qk7 h;obtain⟨vs,hk,hr⟩:=qna hG h;refine⟨_,hk,λX ρ a w R=>?_⟩;obtain⟨xs,hx,hd⟩:=hr X ρ a w R;obtain⟨z,hz,hzd⟩:=R.slot t _ hp;obtain⟨y,hy,hyd⟩:=qm9 (P:=P) R hzd hc h1 h2 hv;refine⟨y::xs,?_,hyd,hd⟩;have hz':a.tmps.getD t undef=z:=by rw[xY,hz];rfl
   rw[List.mapM_cons,show resF a (.cell t ty)=(do loadVar ty (<-asAddr (a.tmps.getD t undef)):Sem Value) from rfl,hz',Sem.run_bind,hy];simp only[Result.andThen_ok,Sem.run_bind,hx,Sem.run_pure]
  .exact h.elim
variable{fn:Func}
theorem qry(hG:q32 P G){st:St}{K:Value->Prop}(h:retK P G fn.results.toList st K):∃v,K v/\∀X ρ a w,Rel X ρ st a w->∃x,(results fn a.tmps).run P w=.ok x w/\Den (Fil st.h) ρ v x:=by
 obtain⟨t0,h0⟩:=st;obtain⟨vs,hk,hr⟩:=qna hG h;have key:∀X ρ a w,Rel X ρ ⟨t0,h0⟩ a w->∃xs:List Value,(results fn a.tmps).run P w=.ok (match xs with
   | [x]=>x
   | xs=>.tuple ⟨xs⟩) w/\All2 (Den (Fil h0) ρ) vs xs:=λX ρ a w R=>by
  obtain⟨xs,hx,hd⟩:=hr X ρ a w R
  refine⟨xs,?_,hd⟩
  have ef:results fn a.tmps=(do
    let vs <-fn.results.mapM (resF a)
    pure (if h:vs.size=1 then vs[0] else .tuple vs)):=rfl
  rw[ef,Array.mapM_eq_mapM_toList,Sem.run_bind,Sem.run_map,hx]
  simp only[Result.andThen_ok,Sem.run_pure]
  match xs with
  | []=>rfl
  | [x]=>rfl
  | x::y::r=>simp
 split at hk
 .rename_i v;refine⟨v,hk,λX ρ a w R=>?_⟩;obtain⟨xs,hx,hd⟩:=key X ρ a w R
  match xs,hd with
  | [x],hd=>exact⟨x,hx,hd.1⟩
  | [],hd=>exact hd.elim
  | _::_::_,hd=>exact hd.2.elim
 .rename_i hne;cases hb:vs.all tup2 with
  | false=>rw[hb] at hk;exact hk.elim
  | true=>
   rw[hb] at hk;refine⟨_,hk,λX ρ a w R=>?_⟩;obtain⟨xs,hx,hd⟩:=key X ρ a w R;refine⟨.tuple ⟨xs⟩,?_,?_⟩
   .rw[hx]
    match xs,vs,hd,hne with
    | [x],[v],_,hne=>exact absurd rfl (hne v)
    | [x],[],hd,_=>exact hd.elim
    | [x],_::_::_,hd,_=>exact hd.2.elim
    | [],_,_,_=>rfl
    | _::_::_,_,_,_=>rfl
   .intro r hr;have:∀(vs xs:List Value),vs.all tup2=true->All2 (Den (Fil h0) ρ) vs xs->vs.map (den2 r)=xs:=by
     intro vs
     induction vs with
     | nil=>intro xs _ h;cases xs with
      | nil=>rfl
      | cons _ _=>exact h.elim
     | cons v vs ih=>
      intro xs hb h;cases xs with
      | nil=>exact h.elim
      | cons x xs=>
       simp only[yl,xi] at hb;rw[xk,ih xs hb.2 h.2];congr 1;rw[<-h.1 r hr];cases v<;>first|rfl|(simp[tup2] at hb)
    simp only[den,Value.tuple.injEq];apply xw.1;rw[xp];exact this vs xs hb hd
noncomputable def bodyQ(P:Program)(G:Tys)(fn:Func)(R:Value->St->Prop):Exit->St->Prop
 | .normal,st=>retK P G fn.results.toList st λv=>R v st
 | .ret,st=>retK P G fn.results.toList st λv=>R v st
 | _,_=>False
def q7v:Nat->(List (Option Value)->Prop)->Prop
 | 0,K=>K []
 | n+1,K=>q7v n λt=>K (none::t)
def initK:List Value->Nat->(List (Option Value)->Prop)->Prop
 | [],n,K=>q7v n K
 | v::vs,n,K=>initK vs (n-1) λt=>K (some v::t)
def q4u:List Value->Nat->List (Option Value)
 | [],n=>List.replicate n none
 | v::vs,n=>some v::q4u vs (n-1)
theorem qlt:∀{n:Nat}{K:List (Option Value)->Prop},q7v n K->K (List.replicate n none)
 | 0,K,h=>h
 | n+1,K,h=>qlt (n:=n) (K:=λt=>K (none::t)) h
theorem qlu:∀{vs:List Value}{n:Nat}{K:List (Option Value)->Prop},initK vs n K->K (q4u vs n)
 | [],n,K,h=>qlt h
 | v::vs,n,K,h=>qlu (vs:=vs) (n:=n-1) (K:=λt=>K (some v::t)) h
theorem qlv:∀(vs:List Value)(n:Nat),(q4u vs n).length=vs.length+(n-vs.length)
 | [],n=>by simp[q4u]
 | v::vs,n=>by simp[q4u,qlv vs (n-1)];omega
theorem qlw:∀(vs:List Value)(n i:Nat)(v:Value),(q4u vs n)[i]?=some (some v)->vs[i]?=some v
 | [],n,i,v,h=>by simp[q4u,List.getElem?_replicate] at h
 | u::vs,n,0,v,h=>by simpa[q4u] using h
 | u::vs,n,i+1,v,h=>by simpa using qlw vs (n-1) i v (by simpa[q4u] using h)
theorem qol{α β:Type}{p:α->β->Prop}:∀{a:List α}{b:List β},All2 p a b->a.length=b.length
 | [],[],_=>rfl
 | [],_::_,h=>h.elim
 | _::_,[],h=>h.elim
 | _::a,_::b,h=>by simp[qol h.2]
theorem qom{α β:Type}{p:α->β->Prop}:∀{a:List α}{b:List β},All2 p a b->∀(i:Nat)(x:α),a[i]?=some x->∃y,b[i]?=some y/\p x y
 | [],[],_,i,x,hx=>by simp at hx
 | [],_::_,h,_,_,_=>h.elim
 | _::_,[],h,_,_,_=>h.elim
 | u::a,v::b,h,0,x,hx=>⟨v,rfl,by simp at hx;subst hx;exact h.1⟩
 | u::a,v::b,h,i+1,x,hx=>by simpa using qom h.2 i x (by simpa using hx)
variable{vs:List Value}
theorem qd5{f:FuncId}{c:Code}{args:Array Value}{w:World}{X:Ctx}{h:Hp}{R:Value->St->Prop}(hG:q32 P G)(hm:P.follows .mixedOrders=true)(hf:P.funcs[f]?=some fn)(hb:fn.body=some c)
  (H:HOK X ρ h w) (hx:All2 (Den (Fil h) ρ) vs args.toList) (hwp:initK vs fn.ntmps λt=>wpC P G X.n0 c (bodyQ P G fn R) ⟨t,h⟩) :
  Calls P f args w λe w'=>∃ρ' v st x,e=.returned x/\HOK X ρ' st.h w'/\Den (Fil st.h) ρ' v x/\R v st:=by
 have hwp:=qlu hwp
 refine calls_of_wp hf hb ?_
 have hlen:=qol hx
 have R0:Rel X ρ ⟨q4u vs fn.ntmps,h⟩ { tmps:=args++Array.replicate (fn.ntmps-args.size) undef,defers:=[] } w:=by
  refine⟨rfl,?_,λi v hi=>?_,H⟩
  .simp[qlv,hlen]
  .have hv:=qlw vs fn.ntmps i v hi;obtain⟨y,hy,hd⟩:=qom hx i v hv;refine⟨y,?_,hd⟩;have hi':i<args.size:=by have:=(xe.1 hy).1;simpa using this
   rw[Array.getElem?_append_left hi'];simpa using hy
 refine wp_mono (qrx hG hm X c _ _ hwp ρ _ w R0) ?_
 rintro e a' w' ⟨ρ',s,R',hq⟩
 cases e with
 | normal=>
  exact Q1U
 | ret=>
  exact Q1U
 | _=>exact hq.elim
def qar(v:Value):Bool:=
 match v with
 | .tuple vs=>vs.toList.all qai
 | v=>qai v
theorem qa7{v:Value}(h:qar v=true)(ρ:Rz):den ρ v=v:=by
 cases v with
 | tuple vs=>
  simp only[qar,xJ] at h;simp only[den,Value.tuple.injEq];apply xw.1;rw[xp];exact(xT λx hx=>qep (h x hx) ρ).trans (List.map_id _)
 | _=>(simp only[qar] at h;exact qaz h ρ)
theorem qrz{F:Nat->Prop}{ρ:Rz}:∀{vs:List Value},vs.all qai=true->All2 (Den F ρ) vs vs
 | [],_=>trivial
 | v::vs,h=>by
  simp only[yl,xi] at h;exact⟨Den.plain h.1,qrz h.2⟩
theorem qca{F:Nat->Prop}{ρ:Rz}:∀{vs xs:List Value},vs.all qai=true->All2 (Den F ρ) vs xs->xs=vs
 | [],[],_,_=>rfl
 | [],_::_,_,h=>h.elim
 | _::_,[],_,h=>h.elim
 | v::vs,x::xs,hp,h=>by
  simp only[yl,xi] at hp;rw[qca hp.2 h.2,<-h.1.self,qaz hp.1]
theorem qah{f:FuncId}{c:Code}{V:Value}(w:World)(hG:q32 P G)(hm:P.follows .mixedOrders=true)(hf:P.funcs[f]?=some fn)(hb:fn.body=some c)(hp:vs.all qai=true)(hV:qar V=true)
  (hwp:initK vs fn.ntmps λt=>wpC P G 0 c (bodyQ P G fn λv _=>N (v=V)) ⟨t,[]⟩):Calls P f ⟨vs⟩ w λe w'=>e=.returned V/\Below w.heap.size w w':=by
 have H:HOK ⟨w,λ_=>False,0,λ_=>(0,0)⟩ (λ_=>(0,0)) [] w:=⟨Evo.refl _ _,λi hi=>absurd hi Q50,λi c hi=>by simp at hi,λi c hi=>by simp at hi,λi c hi=>by simp at hi,λi c j d hi=>by simp at hi,ExtOK.nil λi c hi=>by simp at hi⟩
 refine(qd5 (X:=⟨w,λ_=>False,0,λ_=>(0,0)⟩) hG hm hf hb H (qrz hp) hwp).mono ?_
 rintro e w' ⟨ρ',v,st,x,rfl,H',hd,hv⟩
 have hv:=hv.out
 subst hv
 refine⟨?_,H'.evo.below⟩
 rw[<-hd.self,qa7 hV]
end
def TysAll(P:Program):Tys->Prop
 | []=>True
 | r::rs=>(P.info? r.1=some r.2.1/\P.underlying r.1=some r.2.2)/\TysAll P rs
theorem TysAll.ok:∀{G:Tys},TysAll P G->q32 P G
 | [],_=>λr hr=>by cases hr
 | q::rs,h=>λr hr=>by
  rcases xf.1 hr with rfl|hr
  .exact h.1
  .exact TysAll.ok h.2 r hr
theorem N.forkT{B:Prop}(h:A):N (q6v true A B):=N.mk ⟨λ_=>h,λe=>(by cases e)⟩
theorem N.forkF{B:Prop}(h:B):N (q6v false A B):=N.mk ⟨λe=>(by cases e),λ_=>h⟩
theorem Bn{B:Prop}(h:b=true->A)(k:b=false->B):N (q6v b A B):=N.mk ⟨h,k⟩
theorem Bf{B:Prop}(hb:b=true)(h:A):N (q6v b A B):=N.mk ⟨λ_=>h,λe=>by rw[hb] at e;cases e⟩
theorem Be{B:Prop}(hb:b=false)(h:B):N (q6v b A B):=N.mk ⟨λe=>(by rw[hb] at e;cases e),λ_=>h⟩
theorem N.eq{a b:Value}(h:a=b):N (a=b):=N.mk h
theorem Bb{p:Prop}(h:p)(k:A):N (Obl p A):=N.mk ⟨h,k⟩
section
variable{P:Program}{G:Tys}
variable{vs:List Value}{K:Value->Mz->List Nat->Prop}
theorem Bc{q:Bool}{g:FuncId}{h:Hp}{slot:Nat}{v:Value}{ms:Mz}{rh:List Nat}(hc:qae P g vs h v ms rh)(k:K v ms rh):N (q5u q P g vs h slot K):=N.mk (.inl ⟨v,ms,rh,hc,k⟩)
theorem Bg{g:FuncId}{h:Hp}{slot:Nat}{R:Value->Mz->Prop}(hc:CallAll P g vs h R)(k:∀v ms,R v ms->K v ms []):N (q5u true P g vs h slot K):=N.mk (.inr ⟨rfl,R,hc,k⟩)
theorem qaj{g:FuncId}{h:Hp}{v:Value}(hp:vs.all qai=true)(hv:qar v=true)(hr:∀w,(callFunc g ⟨vs⟩).run P w=.ok (.enter g ⟨vs⟩) w)(hc:∀w,Calls P g ⟨vs⟩ w λe w'=>e=.returned v/\Below w.heap.size w w'):qae P g vs h v [] []:=
 λh₂ _ _ X ρ w xs H hx=>by
  obtain rfl:=qca hp hx;refine .inr ⟨hr w,(hc w).mono ?_⟩;exact Q1a
theorem qon{g:FuncId}{h:Hp}{v:Value}(hp:vs.all qai=true)(hv:qar v=true)(hr:∀w,(callFunc g ⟨vs⟩).run P w=.ok (.value v) w):qae P g vs h v [] []:=
 λh₂ _ _ X ρ w xs H hx=>by
  obtain rfl:=qca hp hx;exact .inl ⟨v,w,hr w,ρ,AgreeOn.refl _ _,H,λr _=>qa7 hv r⟩
theorem Bk{c:Chunk}{f n:Nat}{agg:Bool}{K:Value->Prop}(v:Value)(h:Reads c f agg n v)(k:K v):N (q8k c f agg n K):=N.mk ⟨v,h,k⟩
theorem N.store{c:Chunk}{f n:Nat}{v:Value}{K:Chunk->Prop}(d:Chunk)(h:Writes c f n v d)(k:K d):N (qxm c f n v K):=N.mk ⟨d,h,k⟩
theorem Bi{a:Int}{n:Nat}{K:Nat->Nat->Prop}(j s:Nat)(ha:a=(j:Nat))(hj:j<n)(k:K j s):N (jah a n K):=N.mk ⟨j,s,ha,hj,k⟩
theorem Bm{op:BinOp}{t:TypeId}{x y:Operand}{a b:Value}{K:Value->Prop}(v:Value)(h:BinIs P op t x y a b v)(k:K v):N (jce P op t x y a b K):=N.mk ⟨v,h,k⟩
end
def jcv(d:Nat):Nat:=match Nat.ble d 255 with
 | true=>2^d
 | false=>Nat.mul (2^255) (2^(d-255))
def q7w:List Oper->Nat
 | []=>0
 | o::os=>match o.dst with
  | some d=>Nat.lor (jcv d) (q7w os)
  | none=>q7w os
noncomputable def maskC(c:Code):Nat:=
 Code.rec (motive:=λ_=>Nat) 0 (λ_ ops _=>q7w ops.toList) (λ_ _ a b=>Nat.lor a b) (λ_ _ _ a b=>Nat.lor a b) (λ_ _ a=>a) (λ_ a=>a) (λ_ _ _ _ a b=>Nat.lor a b) (λ_=>0) (λ_ a=>a) (λ_=>0) (λ_=>0) 0 (λ_=>0) c
def q65:Vz->Nat->Option Value
 | [],_=>none
 | (i,v)::r,k=>match Nat.beq i k with
  | true=>some v
  | false=>q65 r k
def q8u(m:Nat)(sets:Vz):List (Option Value)->Nat->List (Option Value)
 | [],_=>[]
 | x::r,k=>(match q65 sets k with
  | some v=>some v
  | none=>match Nat.testBit m k with
   | true=>none
   | false=>x)::q8u m sets r (k+1)
def updK(m:Nat)(sets:Vz):List (Option Value)->Nat->(List (Option Value)->Prop)->Prop
 | [],_,K=>K []
 | x::r,k,K=>match q65 sets k with
  | some v=>updK m sets r (k+1) λl=>K (some v::l)
  | none=>match Nat.testBit m k with
   | true=>updK m sets r (k+1) λl=>K (none::l)
   | false=>updK m sets r (k+1) λl=>K (x::l)
theorem updK_iff{m:Nat}{sets:Vz}:∀{t:List (Option Value)}{k:Nat}{K:List (Option Value)->Prop},updK m sets t k K↔K (q8u m sets t k)
 | [],k,K=>Iff.rfl
 | x::r,k,K=>by
  simp only[updK,q8u];cases q65 sets k with
  | some v=>exact updK_iff
  | none=>
   cases Nat.testBit m k with
   | true=>exact updK_iff
   | false=>exact updK_iff
def ChunkLe(c' c:Chunk):Prop:=(c'.own=true->c.own=true)/\c'.n<=c.n/\(∀j,j<c'.n->c'.f j=c.f j)/\(c'.x=Ext.none\/c'.x=c.x)
theorem ChunkLe.mk{c' c:Chunk}(h1:c'.own=true->c.own=true)(h2:c'.n<=c.n)(h3:∀j,j<c'.n->c'.f j=c.f j)(h4:c'.x=Ext.none:=by rfl):ChunkLe c' c:=⟨h1,h2,h3,.inl h4⟩
theorem ChunkLe.of{o:Bool}{n:Nat}{p q:Pz}(h:p=q):ChunkLe ⟨o,n,p⟩ ⟨o,n,q⟩:=by subst h;exact⟨id,nlr _,λ_ _=>rfl,.inl rfl⟩
theorem ChunkLe.refl(c:Chunk):ChunkLe c c:=⟨id,nlr _,λ_ _=>rfl,.inr rfl⟩
def q7x(h:Hp)(i:Nat):Bool:=
 match q4k h i with
 | some (some _)=>true
 | _=>false
theorem filB_iff{h:Hp}:q7x h i=true↔Fil h i:=by
 unfold q7x Fil;rw[qba];cases h[i]? with
 | none=>simp
 | some c=>cases c<;>simp
def Safe1(h:Hp)(v:Value):Prop:=
 match v with
 | .pointer (some ⟨i,_,some _⟩)=>q7x h i=true
 | .slice (some ⟨i,_,some _⟩) _ _=>q7x h i=true
 | .map (some i)=>q7x h i=true
 | .func _ _ _=>False
 | _=>True
def Safe(h:Hp)(v:Value):Prop:=
 match v with
 | .agg cs=>∀x∈cs.toList,Safe1 h x
 | .tuple _=>False
 | v=>Safe1 h v
theorem Safe1.inScope{h:Hp}{v:Value}(hs:Safe1 h v):qru (Fil h) v:=λρ ρ' ha=>by
 cases v with
 | pointer a=>cases a with
  | none=>rfl
  | some a=>
   exact Q1Y
 | slice a l c=>cases a with
  | none=>rfl
  | some a=>
   exact Q1Y
 | func f x y=>exact hs.elim
 | map a=>cases a with
  | none=>rfl
  | some i=>have:=ha i (filB_iff.1 hs);simp[den1,den0,this]
 | iface t v=>exact qjc _ _ _ _
 | _=>rfl
theorem Safe.inScope{h:Hp}{v:Value}(hs:Safe h v):q7j (Fil h) v:=λρ ρ' ha=>by
 cases v with
 | agg cs=>
  refine Q2p ?_;apply xw.1;rw[xp,xp];exact xT λx hx=>(hs x hx).inScope ρ ρ' ha
 | tuple vs=>exact hs.elim
 | _=>(simp only[Safe] at hs;exact Safe1.inScope hs ρ ρ' ha)
def q4v:Hp->Hp->Bool
 | some _::a,some _::b=>q4v a b
 | none::a,_::b=>q4v a b
 | some _::_,none::_=>true
 | some _::_,[]=>true
 | none::a,[]=>q4v a []
 | [],_=>false
theorem qej:∀{a b:Hp},q4v a b=false->∀i,Fil a i->Fil b i
 | some _::a,some d::b,h,0,_=>⟨d,rfl⟩
 | some _::a,some d::b,h,i+1,hf=>by obtain⟨c,hc⟩:=qej (a:=a) (b:=b) h i Q5y;exact⟨c,by simpa using hc⟩
 | none::a,_::b,h,0,hf=>by obtain⟨c,hc⟩:=hf;simp at hc
 | none::a,_::b,h,i+1,hf=>by
  obtain⟨c,hc⟩:=qej (a:=a) (b:=b) (by cases ‹Option Chunk›<;>exact h) i Q5y;exact⟨c,by simpa using hc⟩
 | some _::_,none::_,h,_,_=>by simp[q4v] at h
 | some _::_,[],h,_,_=>by simp[q4v] at h
 | none::a,[],h,0,hf=>by obtain⟨c,hc⟩:=hf;simp at hc
 | none::a,[],h,i+1,hf=>by
  obtain⟨c,hc⟩:=qej (a:=a) (b:=[]) h i Q5y;simp at hc
 | [],_,_,i,hf=>by obtain⟨c,hc⟩:=hf;simp at hc
def wkT(h':Hp)(drop:Bool):List (Option Value)->List (Option Value)->Prop->Prop
 | [],[],A=>A
 | _::a,none::b,A=>wkT h' drop a b A
 | some u::a,some v::b,A=>N (Obl (u=v) (match drop with
  | false=>wkT h' drop a b A
  | true=>N (Obl (Safe h' v) (wkT h' drop a b A))))
 | _,_,_=>False
def wkH(h':Hp)(drop:Bool):Hp->Hp->Prop->Prop
 | [],[],A=>A
 | _::a,[],A=>wkH h' drop a [] A
 | _::a,none::b,A=>wkH h' drop a b A
 | some c::a,some c'::b,A=>N (Obl (ChunkLe c' c) (match drop with
  | false=>wkH h' drop a b A
  | true=>N (Obl (∀j,j<c'.n->Safe1 h' (c'.f j)) (wkH h' drop a b A))))
 | _,_,_=>False
def wkK(n0:Nat)(st s:St)(A:Prop):Prop:=
 match st,s with
 | ⟨t,h⟩,⟨t',h'⟩=>match q4v (h.take n0) h' with
  | true=>False
  | false=>match q4v h h' with
   | d=>wkT h' d t t' (wkH h' d h h' A)
theorem qnb{h':Hp}{drop:Bool}:∀{t t':List (Option Value)}{A:Prop},wkT h' drop t t' A->
  t'.length=t.length/\(∀(i:Nat)(v:Value),t'[i]?=some (some v)->t[i]?=some (some v))/\(drop=true->∀(i:Nat)(v:Value),t'[i]?=some (some v)->Safe h' v)/\A
 | [],[],A,h=>⟨rfl,λi v hi=>by simp at hi,λ_ i v hi=>by simp at hi,h⟩
 | x::a,none::b,A,h=>by
  have h:wkT h' drop a b A:=by cases x<;>exact h
  obtain⟨h1,h2,h3,h4⟩:=qnb h;refine⟨by simp[h1],λi v hi=>?_,λhd i v hi=>?_,h4⟩
  .cases i with
   | zero=>simp at hi
   | succ i=>simpa using h2 i v Q59
  .cases i with
   | zero=>simp at hi
   | succ i=>exact h3 hd i v Q59
 | some u::a,some v::b,A,h=>by
  obtain⟨e,h⟩:=N.out h;subst e;have hh:(drop=true->Safe h' u)/\wkT h' drop a b A:=Q1V;obtain⟨h1,h2,h3,h4⟩:=qnb hh.2;refine⟨by simp[h1],λi v hi=>?_,λhd i v hi=>?_,h4⟩
  .cases i with
   | zero=>exact hi
   | succ i=>simpa using h2 i v Q59
  .cases i with
   | zero=>simp at hi;subst hi;exact hh.1 hd
   | succ i=>exact h3 hd i v Q59
 | none::a,some v::b,A,h=>h.elim
 | [],_::_,A,h=>h.elim
 | _::_,[],A,h=>by cases ‹Option Value›<;>exact h.elim
theorem qjo{h':Hp}{drop:Bool}:∀{a b:Hp}{A:Prop},wkH h' drop a b A->
  (∀(i:Nat)(c:Chunk),b[i]?=some (some c)->∃d,a[i]?=some (some d)/\ChunkLe c d)/\(drop=true->∀(i:Nat)(c:Chunk),b[i]?=some (some c)->∀j,j<c.n->Safe1 h' (c.f j))/\A
 | [],[],A,h=>⟨λi v hi=>by simp at hi,λ_ i v hi=>by simp at hi,h⟩
 | x::a,[],A,h=>by
  have h:wkH h' drop a [] A:=by cases x<;>exact h
  obtain⟨_,_,h3⟩:=qjo h;exact⟨λi v hi=>by simp at hi,λ_ i v hi=>by simp at hi,h3⟩
 | x::a,none::b,A,h=>by
  have h:wkH h' drop a b A:=by cases x<;>exact h
  obtain⟨h1,h2,h3⟩:=qjo h;refine⟨λi v hi=>?_,λhd i v hi=>?_,h3⟩
  .cases i with
   | zero=>simp at hi
   | succ i=>simpa using h1 i v Q59
  .cases i with
   | zero=>simp at hi
   | succ i=>exact h2 hd i v Q59
 | some c::a,some c'::b,A,h=>by
  obtain⟨e,h⟩:=N.out h;have hh:(drop=true->∀j,j<c'.n->Safe1 h' (c'.f j))/\wkH h' drop a b A:=Q1V;obtain⟨h1,h2,h3⟩:=qjo hh.2;refine⟨λi v hi=>?_,λhd i v hi=>?_,h3⟩
  .cases i with
   | zero=>simp at hi;subst hi;exact⟨c,rfl,e⟩
   | succ i=>simpa using h1 i v Q59
  .cases i with
   | zero=>simp at hi;subst hi;exact hh.1 hd
   | succ i=>exact h2 hd i v Q59
 | none::a,some c'::b,A,h=>h.elim
 | [],none::b,A,h=>h.elim
 | [],some _::b,A,h=>h.elim
theorem qr0{n0:Nat}{s:St}(h:wkK n0 st s A):Wk n0 st s/\A:=by
 obtain⟨t,hh⟩:=st;obtain⟨t',h'⟩:=s;simp only[wkK] at h;cases hb:q4v (hh.take n0) h' with
 | true=>rw[hb] at h;exact h.elim
 | false=>
  rw[hb] at h;simp only at h;obtain⟨a1,a2,a3,h⟩:=qnb h;obtain⟨b1,b2,h⟩:=qjo h;refine⟨⟨a1,a2,λi c hi=>?_,λi hi hf=>?_,?_⟩,h⟩
  .obtain⟨d,hd,h1,h2,h3⟩:=b1 i c hi;exact⟨d,hd,h1,h2,h3⟩
  .refine qej hb i ?_;obtain⟨c,hc⟩:=hf;exact⟨c,by rw[zc,if_pos hi];exact hc⟩
  .cases hd:q4v hh h' with
   | false=>exact .inl (qej hd)
   | true=>
    refine .inr ⟨λi v hi=>(a3 hd i v hi).inScope,λi c hi j hj=>(b2 hd i c hi j hj).inScope⟩
def q7y{α:Type}(p:α->Prop)(K:α->Prop):Prop:=∃y,p y/\K y
theorem N.next{α:Type}{p:α->Prop}{K:α->Prop}(y:α)(hp:p y)(k:K y):N (q7y p K):=N.mk ⟨y,hp,k⟩
theorem Bd:N True:=N.mk trivial
section
variable{P:Program}{G:Tys}
theorem setM_iff{K:Hp->Prop}:∀{ms:Mz}{h:Hp},setM h ms K↔K (modH h ms):=by
 have one:∀{l:Hp}{n:Nat}{v:Chunk}{K:Hp->Prop},q6g l n v K↔K (l.set n (some v)):=by
  intro l
  induction l with
  | nil=>intro n v K;exact Iff.rfl
  | cons x r ih=>intro n v K;cases n with
   | zero=>exact Iff.rfl
   | succ n=>exact ih (K:=λr'=>K (x::r'))
 intro ms
 induction ms with
 | nil=>intro h;exact Iff.rfl
 | cons m ms ih=>intro h;exact one.trans ih
theorem N.loop{n0:Nat}{c:Code}{A:(Exit->St->Prop)->St->Prop}{Q:Exit->St->Prop}{t:List (Option Value)}{h:Hp}{α:Type}(inv:α->Prop)(μ:α->Nat)(sets:α->Vz)(hs:α->Mz)(x0:α)(h0:inv x0)
  (hw:updK (maskC c) (sets x0) t 0 λt'=>setM h (hs x0) λh'=>wkK n0 ⟨t,h⟩ ⟨t',h'⟩ (N True))
  (hr:∀x,inv x->updK (maskC c) (sets x) t 0 λt'=>setM h (hs x) λh'=>A (thenQ (λs=>N (q7y (λy=>inv y/\μ y<μ x) λy=>updK (maskC c) (sets y) t 0 λt''=>setM h (hs y) λh''=>wkK n0 s ⟨t'',h''⟩ (N True))) Q) ⟨t',h'⟩):N (q5z P G n0 c A Q ⟨t,h⟩):=by
 refine N.mk ⟨α,λx=>⟨q8u (maskC c) (sets x) t 0,modH h (hs x)⟩,inv,μ,λx s=>N (q7y (λy=>inv y/\μ y<μ x) λy=>updK (maskC c) (sets y) t 0 λt''=>setM h (hs y) λh''=>wkK n0 s ⟨t'',h''⟩ (N True)),λx s hq=>?_,⟨x0,h0,(qr0 (setM_iff.1 (updK_iff.1 hw))).1.g⟩,λx hx=>setM_iff.1 (updK_iff.1 (hr x hx))⟩
 obtain⟨y,⟨hy,hlt⟩,hk⟩:=N.out hq
 exact⟨y,hy,(qr0 (setM_iff.1 (updK_iff.1 hk))).1.g,hlt⟩
end
open Go Go.RowKit
theorem Evo.into{M M':Addr->Prop}{a b c:World}(h:Evo M a b)(k:Evo M' b c)(hs:∀p,M' ⟨p,0,some 0⟩->a.heap.size<=p\/M ⟨p,0,some 0⟩)(hm:∀p j,M' ⟨p,j,none⟩->a.heap.size<=p\/M ⟨p,j,none⟩):Evo M a c:=
 ⟨k.os.trans h.os,k.tape.trans h.tape,k.output.trans h.output,xH h.size k.size,λi hi=>(h.block i hi).trans (by
  rcases k.block i (xh hi h.size) with e|e|⟨cs,ty,fz,cs',e1,e2,hs',hc⟩
  .exact .inl e
  .rcases hs i e with h1|h1
   .omega
   .exact .inr (.inl h1)
  .refine .inr (.inr ⟨cs,ty,fz,cs',e1,e2,hs',λj hj=>hc j λhj'=>?_⟩);rcases hm i j hj' with h1|h1
   .omega
   .exact hj h1)⟩
theorem Evo.same{M:Addr->Prop}{w':World}(k:Evo M w w'){b:Nat}(hb:b<w.heap.size)(hs:¬ M ⟨b,0,some 0⟩)(hm:∀j,¬ M ⟨b,j,none⟩):w'.heap[b]?=w.heap[b]?:=by
 rcases k.block b hb with e|e|⟨cs,ty,fz,cs',e1,e2,hs',hc⟩
 .exact e.symm
 .exact absurd e hs
 .rw[e1,e2];have:cs'=cs:=y6 λj=>hc j (hm j)
  rw[this]
theorem Den1.plain{F:Nat->Prop}{v:Value}(hv:qa2 v=true):Den1 F ρ v v:=λr _=>qa6 hv r
def ixK:Lz->Nat->Option Nat
 | [],_=>none
 | (k,i)::r,n=>match Nat.beq k n with
  | true=>some i
  | false=>ixK r n
theorem qda:∀{ix:Lz}{k i:Nat},ixK ix k=some i->(k,i)∈ix
 | [],_,_,h=>by cases h
 | (a,b)::r,k,i,h=>by
  simp only[ixK] at h;cases e:Nat.beq a k with
  | true=>
   rw[e] at h;have:=xF e;simp only[Option.some.injEq] at h;subst this h;simp
  | false=>rw[e] at h;exact ym _ (qda h)
inductive Re0(ix:Lz):Value->Value->Prop
 | ptr {i k f s s':Nat} (h:ixK ix k=some i):Re0 ix (.pointer (some ⟨i,f,some s⟩)) (.pointer (some ⟨k,f,some s'⟩))
 | any {v v':Value} (h:∀r r',den0 r v=den0 r' v'):Re0 ix v v'
inductive Re1(ix:Lz):Value->Value->Prop
 | plain {v:Value} (h:qa2 v=true):Re1 ix v v
 | ptr {i k f s s':Nat} (h:ixK ix k=some i):Re1 ix (.pointer (some ⟨i,f,some s⟩)) (.pointer (some ⟨k,f,some s'⟩))
 | slice {i k f s s' l c:Nat} (h:ixK ix k=some i):Re1 ix (.slice (some ⟨i,f,some s⟩) l c) (.slice (some ⟨k,f,some s'⟩) l c)
 | map {i k:Nat} (h:ixK ix k=some i):Re1 ix (.map (some i)) (.map (some k))
 | quo {t:TypeId} {v:Value}:Re1 ix (.iface t v) (.iface t v)
 | any {v v':Value} (h:∀r r',den1 r v=den1 r' v'):Re1 ix v v'
 | func {g:Fn} {m m' l l':List Value} (hu:All2 (Re0 ix) m m') (h:All2 (Re0 ix) l l'):Re1 ix (.func g ⟨m⟩ ⟨l⟩) (.func g ⟨m'⟩ ⟨l'⟩)
inductive Re2(ix:Lz):Value->Value->Prop
 | plain {v:Value} (h:qai v=true):Re2 ix v v
 | ptr {i k f s s':Nat} (h:ixK ix k=some i):Re2 ix (.pointer (some ⟨i,f,some s⟩)) (.pointer (some ⟨k,f,some s'⟩))
 | slice {i k f s s' l c:Nat} (h:ixK ix k=some i):Re2 ix (.slice (some ⟨i,f,some s⟩) l c) (.slice (some ⟨k,f,some s'⟩) l c)
 | map {i k:Nat} (h:ixK ix k=some i):Re2 ix (.map (some i)) (.map (some k))
 | quo {t:TypeId} {v:Value}:Re2 ix (.iface t v) (.iface t v)
 | agg {l l':List Value} (h:All2 (Re1 ix) l l'):Re2 ix (.agg ⟨l⟩) (.agg ⟨l'⟩)
 | any {v v':Value} (h2:∀r r',Sx.den2 r v=Sx.den2 r' v') (h:∀r r',Sx.den r v=Sx.den r' v'):Re2 ix v v'
 | func {g:Fn} {m m' l l':List Value} (hu:All2 (Re0 ix) m m') (h:All2 (Re0 ix) l l'):Re2 ix (.func g ⟨m⟩ ⟨l⟩) (.func g ⟨m'⟩ ⟨l'⟩)
inductive Re(ix:Lz):Value->Value->Prop
 | plain {v:Value} (h:qar v=true):Re ix v v
 | one {v v':Value} (h:Re2 ix v v'):Re ix v v'
 | tuple {l l':List Value} (h:All2 (Re2 ix) l l'):Re ix (.tuple ⟨l⟩) (.tuple ⟨l'⟩)
variable{ix:Lz}
theorem Re0.den{v v':Value}{r r':Rz}(h:Re0 ix v v')(hr:∀k i,(k,i)∈ix->r i=r' k):den0 r v=den0 r' v':=by
 cases h with
 | ptr h=>simp only[den0,q4a,hr _ _ (qda h)]
 | any h=>exact h _ _
theorem qhh{ix:Lz}{r r':Rz}(hr:∀k i,(k,i)∈ix->r i=r' k):∀{l l':List Value},All2 (Re0 ix) l l'->l.map (den0 r)=l'.map (den0 r')
 | [],[],_=>rfl
 | [],_::_,h=>h.elim
 | _::_,[],h=>h.elim
 | _::_,_::_,h=>by rw[xk,xk,h.1.den hr,qhh hr h.2]
theorem Re1.den{v v':Value}{r r':Rz}(h:Re1 ix v v')(hr:∀k i,(k,i)∈ix->r i=r' k):den1 r v=den1 r' v':=by
 cases h with
 | plain h=>rw[qa6 h,qa6 h]
 | ptr h=>simp only[den1,den0,q4a,hr _ _ (qda h)]
 | slice h=>simp only[den1,den0,q4a,hr _ _ (qda h)]
 | map h=>simp only[den1,den0,hr _ _ (qda h)]
 | quo=>exact qjc _ _ _ _
 | any h=>exact h _ _
 | func hu h=>
  simp only[den1,Value.func.injEq,true_and];constructor
  .apply xw.1;rw[xp,xp];exact qhh hr hu
  .apply xw.1;rw[xp,xp];exact qhh hr h
theorem qlx{ix:Lz}{r r':Rz}(hr:∀k i,(k,i)∈ix->r i=r' k):∀{l l':List Value},All2 (Re1 ix) l l'->l.map (den1 r)=l'.map (den1 r')
 | [],[],_=>rfl
 | [],_::_,h=>h.elim
 | _::_,[],h=>h.elim
 | _::_,_::_,h=>by rw[xk,xk,h.1.den hr,qlx hr h.2]
theorem Re2.den2{v v':Value}{r r':Rz}(h:Re2 ix v v')(hr:∀k i,(k,i)∈ix->r i=r' k):Sx.den2 r v=Sx.den2 r' v':=by
 cases h with
 | plain h=>rw[qep h,qep h]
 | ptr h=>simp only[Sx.den2,den1,den0,q4a,hr _ _ (qda h)]
 | slice h=>simp only[Sx.den2,den1,den0,q4a,hr _ _ (qda h)]
 | map h=>simp only[Sx.den2,den1,den0,hr _ _ (qda h)]
 | quo=>exact qjc _ _ _ _
 | agg h=>
  simp only[Sx.den2,Value.agg.injEq];apply xw.1;rw[xp,xp];exact qlx hr h
 | any h2 _=>exact h2 _ _
 | func hu h=>exact(Re1.func hu h:Re1 ix _ _).den hr
theorem qly{ix:Lz}{r r':Rz}(hr:∀k i,(k,i)∈ix->r i=r' k):∀{l l':List Value},All2 (Re2 ix) l l'->l.map (den2 r)=l'.map (den2 r')
 | [],[],_=>rfl
 | [],_::_,h=>h.elim
 | _::_,[],h=>h.elim
 | _::_,_::_,h=>by rw[xk,xk,h.1.den2 hr,qly hr h.2]
theorem Re2.den{v v':Value}{r r':Rz}(h:Re2 ix v v')(hr:∀k i,(k,i)∈ix->r i=r' k):Sx.den r v=Sx.den r' v':=by
 have e:=h.den2 hr;cases h with
 | plain h=>rw[qaz h,qaz h]
 | ptr h=>exact e
 | slice h=>exact e
 | map h=>exact e
 | quo=>exact e
 | agg h=>exact e
 | any _ h=>exact h _ _
 | func _ _=>exact e
theorem Re.den{v v':Value}{r r':Rz}(h:Re ix v v')(hr:∀k i,(k,i)∈ix->r i=r' k):Sx.den r v=Sx.den r' v':=by
 cases h with
 | plain h=>rw[qa7 h,qa7 h]
 | one h=>exact h.den hr
 | tuple h=>
  simp only[Sx.den,Value.tuple.injEq];apply xw.1;rw[xp,xp];exact qly hr h
structure q3w where
 i:Nat
 c:Chunk
 e:Chunk
 d:Chunk
structure q38 where
 i:Nat
 k:Nat
 d:Chunk
def partH:List q3w->Hp
 | []=>[]
 | s::r=>some s.e::partH r
def partX:List q3w->Nat->Lz
 | [],_=>[]
 | s::r,k=>(k,s.i)::partX r (k+1)
def partM:List q3w->Mz
 | []=>[]
 | s::r=>match s.e.own with
  | true=>(s.i,s.d)::partM r
  | false=>partM r
def q50:List q3w->List Nat
 | []=>[]
 | s::r=>match s.e.own with
  | true=>q50 r
  | false=>s.i::q50 r
def madeX:List q38->Lz
 | []=>[]
 | n::r=>(n.k,n.i)::madeX r
def madeM:List q38->Mz
 | []=>[]
 | n::r=>(n.i,n.d)::madeM r
theorem qhi:∀{ss:List q3w}{k:Nat},(partH ss)[k]?=(ss[k]?).map λs=>some s.e
 | [],k=>by simp[partH]
 | s::r,0=>rfl
 | s::r,k+1=>by simpa[partH] using qhi (ss:=r) (k:=k)
theorem partX_mem:∀{ss:List q3w}{k0 k i:Nat},(k,i)∈partX ss k0↔∃l s,ss[l]?=some s/\k=k0+l/\i=s.i
 | [],k0,k,i=>by simp[partX]
 | s::r,k0,k,i=>by
  simp only[partX,xf,Prod.mk.injEq,partX_mem (ss:=r)];constructor
  .rintro(⟨rfl,rfl⟩|⟨l,t,h,rfl,rfl⟩)
   .exact⟨0,s,rfl,rfl,rfl⟩
   .exact⟨l+1,t,h,by omega,rfl⟩
  .rintro⟨l,t,h,rfl,rfl⟩;cases l with
   | zero=>simp at h;subst h;exact .inl ⟨rfl,rfl⟩
   | succ l=>exact .inr ⟨l,t,by simpa using h,by omega,rfl⟩
theorem partM_mem:∀{ss:List q3w}{m:Nat×Chunk},m∈partM ss↔∃s∈ss,s.e.own=true/\m=(s.i,s.d)
 | [],m=>by simp[partM]
 | s::r,m=>by
  simp only[partM];cases e:s.e.own with
  | true=>
       simp only[xf,partM_mem (ss:=r)];constructor
       .rintro(rfl|⟨t,ht,h1,h2⟩)
        .exact⟨s,.inl rfl,e,rfl⟩
        .exact⟨t,.inr ht,h1,h2⟩
       .rintro⟨t,rfl|ht,h1,h2⟩
        .exact .inl h2
        .exact .inr ⟨t,ht,h1,h2⟩
  | false=>
        simp only[xf,partM_mem (ss:=r)];constructor
        .rintro⟨t,ht,h1,h2⟩;exact⟨t,.inr ht,h1,h2⟩
        .rintro⟨t,rfl|ht,h1,h2⟩
         .rw[e] at h1;cases h1
         .exact⟨t,ht,h1,h2⟩
theorem qhj:∀{ss:List q3w}{i:Nat},(∃s∈ss,s.e.own=false/\i=s.i)->i∈q50 ss
 | [],i,h=>by simp at h
 | s::r,i,⟨t,ht,h1,h2⟩=>by
  simp only[q50];rcases xf.1 ht with rfl|ht
  .rw[h1];simp[h2]
  .have:=qhj (ss:=r) ⟨t,ht,h1,h2⟩;cases s.e.own with
   | true=>exact this
   | false=>exact ym _ this
theorem madeX_mem:∀{ns:List q38}{k i:Nat},(k,i)∈madeX ns↔∃n∈ns,k=n.k/\i=n.i
 | [],k,i=>by simp[madeX]
 | n::r,k,i=>by simp[madeX,madeX_mem (ns:=r)]
theorem madeM_mem:∀{ns:List q38}{m:Nat×Chunk},m∈madeM ns↔∃n∈ns,m=(n.i,n.d)
 | [],m=>by simp[madeM]
 | n::r,m=>by simp[madeM,madeM_mem (ns:=r)]
theorem qfk:∀{ms:Mz}{h:Hp},(modH h ms).length=h.length
 | [],h=>rfl
 | (i,c)::ms,h=>by simp[modH,qfk (ms:=ms)]
theorem qjp:∀{ms:Mz}{h:Hp}{k:Nat}{e:Chunk},(modH h ms)[k]?=some (some e)->(∃m∈ms,m.1=k/\m.2=e)\/((∀m∈ms,m.1≠k)/\h[k]?=some (some e))
 | [],h,k,e,hk=>.inr ⟨by simp,hk⟩
 | (i,c)::ms,h,k,e,hk=>by
  rcases qjp (ms:=ms) hk with ⟨m,hm,h1,h2⟩|⟨h1,h2⟩
  .exact .inl ⟨m,ym _ hm,h1,h2⟩
  .by_cases ek:i=k
   .subst ek;have hl:i<h.length:=by have:=(xe.1 h2).1;simpa using this
    rw[xr hl] at h2;exact .inl ⟨(i,c),by simp,rfl,by simpa using h2⟩
   .rw[xt ek] at h2;refine .inr ⟨λm hm=>?_,h2⟩;rcases xf.1 hm with rfl|hm
    .exact ek
    .exact h1 m hm
theorem qoo:∀{ms:Mz}{h:Hp}{m:Nat×Chunk},m∈ms->m.1<h.length->Fil (modH h ms) m.1
 | (i,c)::ms,h,m,hm,hl=>by
  rcases xf.1 hm with rfl|hm
  .exact Fil.mod (ms:=ms) ⟨c,by rw[xr hl]⟩
  .exact qoo (ms:=ms) hm Q5e
def PartsIn(h:Hp):List q3w->Prop
 | []=>True
 | s::r=>h[s.i]?=some (some s.c)/\PartsIn h r
def qb4(ix:Lz)(c e:Chunk):Prop:=∀j,j<e.n->Re1 ix (c.f j) (e.f j)
def PartsRe(ix:Lz):List q3w->Prop
 | []=>True
 | s::r=>((s.e.own=true->s.c.own=true/\s.d.n<=s.c.n)/\s.e.n<=s.c.n/\qb4 ix s.c s.e)/\PartsRe ix r
def Apart:List q3w->Prop
 | []=>True
 | s::r=>(∀t∈r,(s.e.own=true\/t.e.own=true)->s.i≠t.i)/\Apart r
def MadeIn(h:Hp):List q38->Prop
 | []=>True
 | n::r=>(h[n.i]?=some none/\(n.d.own,n.d.x)=(true,Ext.none)/\0<n.d.n/\∀m∈r,n.i≠m.i/\n.k≠m.k)/\MadeIn h r
theorem PartsIn.at{h:Hp}:∀{ss:List q3w},PartsIn h ss->∀s∈ss,h[s.i]?=some (some s.c)
 | t::r,hp,s,hs=>Q1P
theorem PartsRe.at:∀{ss:List q3w},PartsRe ix ss->∀s∈ss,(s.e.own=true->s.c.own=true/\s.d.n<=s.c.n)/\s.e.n<=s.c.n/\qb4 ix s.c s.e
 | t::r,hp,s,hs=>Q1P
theorem Apart.at:∀{ss:List q3w},Apart ss->∀(k l:Nat)(s t:q3w),ss[k]?=some s->ss[l]?=some t->k≠l->s.e.own=true->s.i≠t.i
 | a::r,hp,0,0,s,t,hk,hl,hne,ho=>absurd rfl hne
 | a::r,hp,0,l+1,s,t,hk,hl,hne,ho=>by
  simp at hk;subst hk;exact hp.1 t (xy Q5e) (.inl ho)
 | a::r,hp,k+1,0,s,t,hk,hl,hne,ho=>by
  simp at hl;subst hl;exact λe=>hp.1 s (xy Q5L) (.inr ho) e.symm
 | a::r,hp,k+1,l+1,s,t,hk,hl,hne,ho=>hp.2.at k l s t Q5L Q5e Q4P ho
theorem MadeIn.at{h:Hp}:∀{ns:List q38},MadeIn h ns->∀n∈ns,h[n.i]?=some none/\n.d.own=true/\0<n.d.n/\n.d.x=Ext.none
 | t::r,hp,s,hs=>by
  rcases xf.1 hs with rfl|hs
  .exact⟨hp.1.1,(Prod.mk.inj hp.1.2.1).1,hp.1.2.2.1,(Prod.mk.inj hp.1.2.1).2⟩
  .exact hp.2.at s hs
theorem MadeIn.ne{h:Hp}:∀{ns:List q38},MadeIn h ns->∀n∈ns,∀m∈ns,(n.i=m.i\/n.k=m.k)->n=m
 | t::r,hp,n,hn,m,hm,he=>by
  rcases xf.1 hn with h1|h1<;>rcases xf.1 hm with h2|h2
  .rw[h1,h2]
  .have:=hp.1.2.2.2 m h2;rw[h1] at he;omega
  .have:=hp.1.2.2.2 n h1;rw[h2] at he;omega
  .exact hp.2.ne n h1 m h2 he
theorem q1m{o:Bool}{n m:Nat}{ps:Pz}(hp:∀j,j<n->qa2 (qa1 ps j)=true):
  ((⟨false,n,ps⟩:Chunk).own=true->(⟨o,n,ps⟩:Chunk).own=true/\m<=(⟨o,n,ps⟩:Chunk).n)/\(⟨false,n,ps⟩:Chunk).n<=(⟨o,n,ps⟩:Chunk).n/\qb4 ix ⟨o,n,ps⟩ ⟨false,n,ps⟩:=
 ⟨λh=>Q5j,nlr _,λj hj=>.plain (hp j hj)⟩
theorem qbq{n:Nat}{l:List Value}(hl:l.length=n)(h:qai (.agg ⟨l⟩)=true):∀j,j<n->qa2 (qa1 [(0,n,.agg ⟨l⟩)] j)=true:=λj hj=>by
 rw[qan,if_pos Q4P];simp only[cellIn,Nat.sub_zero,xL];rw[xn Q4P];simp only[qai,xJ] at h;exact h _ (List.getElem_mem _)
def PostC(ix:Lz)(h:Hp)(k:Nat)(d:Chunk):Prop:=∃c,h[k]?=some (some c)/\(d.own=true->c.own=true)/\d.n<=c.n/\∀j,j<d.n->Re1 ix (d.f j) (c.f j)
def PostS(ix:Lz)(h:Hp):List q3w->Nat->Prop
 | [],_=>True
 | s::r,k=>match s.e.own with
  | true=>PostC ix h k s.d/\PostS ix h r (k+1)
  | false=>PostS ix h r (k+1)
def PostN(ix:Lz)(h:Hp)(n0:Nat):List q38->Prop
 | []=>True
 | n::r=>(n0<=n.k/\PostC ix h n.k n.d)/\PostN ix h n0 r
theorem PostS.at{ix:Lz}{h:Hp}:∀{ss:List q3w}{k0:Nat},PostS ix h ss k0->∀(l:Nat)(s:q3w),ss[l]?=some s->s.e.own=true->PostC ix h (k0+l) s.d
 | a::r,k0,hp,0,s,hl,ho=>by
  simp at hl;subst hl;simp only[PostS] at hp;rw[ho] at hp;exact hp.1
 | a::r,k0,hp,l+1,s,hl,ho=>by
  simp only[PostS] at hp;have:PostS ix h r (k0+1):=by
   cases e:a.e.own with
   | true=>rw[e] at hp;exact hp.2
   | false=>rw[e] at hp;exact hp
  rw[show k0+(l+1)=k0+1+l by omega];exact this.at l s Q5e ho
theorem PostN.at{h:Hp}{n0:Nat}:∀{ns:List q38},PostN ix h n0 ns->∀n∈ns,n0<=n.k/\PostC ix h n.k n.d
 | t::r,hp,s,hs=>Q1P
section
variable{P:Program}{G:Tys}
def q5g(ss:List q3w)(k:Nat):Nat:=match ss[k]? with
 | some s=>s.i
 | none=>0
def subM(ρ:Rz)(S:Nat->Nat->Prop)(ss:List q3w):Addr->Prop:=λa=>
 (a.spot=none/\∃s∈ss,s.e.own=true/\a.block=(ρ s.i).1/\(ρ s.i).2<=a.off/\a.off<(ρ s.i).2+s.c.n)\/∃s∈ss,s.e.own=true/\S s.i a.block
variable{ρ:Rz}{S:Nat->Nat->Prop}{ss:List q3w}
theorem qjq{b:Nat}(h:subM ρ S ss ⟨b,0,some 0⟩):∃s∈ss,s.e.own=true/\S s.i b:=by
 rcases h with ⟨h,_⟩|h
 .cases h
 .exact h
def qr1(s:q3w):Prop:=s.e.x=Ext.none\/(s.e.own=true/\s.e.x=s.c.x)
variable{h₂:Hp}{vs xs:List Value}{X:Ctx}{w:World}
theorem qhk(ss:List q3w)(vs':List Value)
  (hI:∀s∈ss,h₂[s.i]?=some (some s.c)) (hre:PartsRe (partX ss 0) ss) (hap:Apart ss) (hex:∀s∈ss,qr1 s) (hvs:All2 (Re2 (partX ss 0)) vs vs') (H:HOK X ρ h₂ w) (E:ExtOK X ρ h₂ w S) (hx:All2 (Den (Fil h₂) ρ) vs xs) :
  HOK ⟨w,subM ρ S ss,ss.length,λk=>ρ (q5g ss k)⟩ (λk=>ρ (q5g ss k)) (partH ss) w/\All2 (Den (Fil (partH ss)) λk=>ρ (q5g ss k)) vs' xs:=by
 let σ:Nat->Nat:=q5g ss
 have hσ:∀k s,ss[k]?=some s->σ k=s.i:=λk s hk=>by show(match ss[k]? with|some s=>s.i|none=>0)=s.i;rw[hk]
 let M':Addr->Prop:=subM ρ S ss
 have hix0:∀k i,(k,i)∈partX ss 0->i=σ k/\k<ss.length:=λk i hki=>by
  obtain⟨l,s,hl,rfl,rfl⟩:=partX_mem.1 hki;rw[xl];exact⟨(hσ l s hl).symm,(xe.1 hl).1⟩
 have filH:∀k s,ss[k]?=some s->Fil (partH ss) k:=λk s hk=>⟨s.e,by rw[qhi,hk];rfl⟩
 have getP:∀k c,(partH ss)[k]?=some (some c)->∃s:q3w,ss[k]?=some s/\s.e=c:=λk c hk=>by
  rw[qhi] at hk;cases e:ss[k]? with
  | none=>rw[e] at hk;cases hk
  | some s=>rw[e] at hk;exact⟨s,e,by simpa using hk⟩
 have H0:HOK ⟨w,M',ss.length,λk=>ρ (σ k)⟩ (λk=>ρ (σ k)) (partH ss) w:=by
  refine⟨Evo.refl _ _,λk hk=>?_,λk c hk=>?_,λk c hk j hj=>?_,λk c hk ho j hj=>?_,λk c l e hk ho hl hne=>?_,?_⟩
  .have hk:k<ss.length:=hk;exact⟨filH k ss[k] (by simp[hk]),rfl⟩
  .obtain⟨s,hs,rfl⟩:=getP k c hk;show(ρ (σ k)).1<_;rw[hσ k s hs];exact H.lt _ _ (hI s (xy hs))
  .obtain⟨s,hs,rfl⟩:=getP k c hk;have hmem:=xy hs;obtain⟨_,hn,hcr⟩:=hre.at s hmem;obtain⟨x,hx,hdx⟩:=H.cell _ _ (hI s hmem) j (xh hj hn);show ∃x,w.cell? ⟨(ρ (σ k)).1,(ρ (σ k)).2+j,none⟩=some x/\_;rw[hσ k s hs];refine⟨x,hx,λr hrr=>?_⟩;have:=(hcr j hj).den (r:=ρ) (r':=r) (λk i hki=>by
    obtain⟨rfl,hlt⟩:=hix0 k i hki;exact(hrr k (filH k ss[k] (by simp[hlt]))).symm)
   rw[<-this];exact hdx.self
  .obtain⟨s,hs,rfl⟩:=getP k c hk;have hmem:=xy hs;obtain⟨ho1,hn,hcr⟩:=hre.at s hmem;have hj':=xh hj hn;show w.frozen? ⟨(ρ (σ k)).1,(ρ (σ k)).2+j,none⟩=false/\(_<=(ρ (σ k)).1\/M' ⟨(ρ (σ k)).1,(ρ (σ k)).2+j,none⟩);rw[hσ k s hs];exact⟨(H.own _ _ (hI s hmem) (ho1 ho).1 j hj').1,.inr (.inl ⟨rfl,s,hmem,ho,rfl,Nat.le_add_right _ _,Nat.add_lt_add_left hj' _⟩)⟩
  .obtain⟨s,hs,rfl⟩:=getP k c hk;obtain⟨t,ht,rfl⟩:=getP l e hl;have hmem:=xy hs;show(ρ (σ k)).1≠(ρ (σ l)).1;rw[hσ k s hs,hσ l t ht];exact H.sep _ _ _ _ (hI s hmem) ((hre.at s hmem).1 ho).1 (hI t (xy ht)) (hap.at k l s t hs ht hne ho)
  .refine⟨λk b=>∃s,ss[k]?=some s/\s.e.x≠Ext.none/\S s.i b,λk c hk=>?_,λk c b hk hS=>?_,λk c b l d hk hS hl hne=>?_⟩
   .obtain⟨s,hs,rfl⟩:=getP k c hk;show s.e.x.inv (ρ (σ k)) _ w;rw[hσ k s hs];rcases hex s (xy hs) with e|⟨_,e⟩
    .rw[e];rintro b ⟨t,ht,h1,_⟩;rw[hs] at ht;obtain rfl:s=t:=by simpa using ht
     exact h1 e
    .by_cases en:s.e.x=Ext.none
     .rw[en];rintro b ⟨t,ht,h1,_⟩;rw[hs] at ht;obtain rfl:s=t:=by simpa using ht
      exact h1 en
     .have:(λb=>∃t,ss[k]?=some t/\t.e.x≠Ext.none/\S t.i b)=S s.i:=by
       funext b;refine propext ⟨?_,λh=>⟨s,hs,en,h⟩⟩;rintro⟨t,ht,_,h⟩;rw[hs] at ht;obtain rfl:s=t:=by simpa using ht
       exact h
      rw[this,e];exact E.inv _ _ (hI s (xy hs))
   .obtain⟨s,hs,rfl⟩:=getP k c hk;obtain⟨t,ht,hx1,hb⟩:=hS;rw[hs] at ht;obtain rfl:s=t:=by simpa using ht
    have hmem:=xy hs;obtain⟨h1,h2,h3⟩:=E.mine _ _ b (hI s hmem) hb;have ho:s.e.own=true:=Q2s;exact⟨by have:=(hre.at s hmem).2.1;show s.e.n=0\/b≠(ρ (σ k)).1;rw[hσ k s hs];omega,h2,.inr ⟨.inr ⟨s,hmem,ho,hb⟩,λj=>.inr ⟨s,hmem,ho,hb⟩⟩⟩
   .obtain⟨s,hs,rfl⟩:=getP k c hk;obtain⟨u,hu,rfl⟩:=getP l d hl;obtain⟨t,ht,hx1,hb⟩:=hS;rw[hs] at ht;obtain rfl:s=t:=by simpa using ht
    have hmem:=xy hs;have ho:s.e.own=true:=Q2s;have hne':u.i≠s.i:=λe=>hap.at k l s u hs hu (λe=>hne e.symm) ho e.symm
    obtain⟨h1,h2⟩:=E.apart _ _ b _ _ (hI s hmem) hb (hI u (xy hu)) hne';refine⟨by show(ρ (σ l)).1≠b;rw[hσ l u hu];exact h1,?_⟩;rintro⟨t,ht,_,hb'⟩;rw[hu] at ht;obtain rfl:u=t:=by simpa using ht
    exact h2 hb'
 have hargs:∀(aas bs ys:List Value),All2 (Re2 (partX ss 0)) aas bs->All2 (Den (Fil h₂) ρ) aas ys->All2 (Den (Fil (partH ss)) λk=>ρ (σ k)) bs ys:=by
  intro aas
  induction aas with
  | nil=>intro bs ys h1 h2;cases bs with
   | nil=>cases ys with
    | nil=>exact trivial
    | cons _ _=>exact h2.elim
   | cons _ _=>exact h1.elim
  | cons a aas ih=>
   intro bs ys h1 h2;cases bs with
   | nil=>exact h1.elim
   | cons b bs=>cases ys with
    | nil=>exact h2.elim
    | cons y ys=>
     refine⟨λr hrr=>?_,ih bs ys h1.2 h2.2⟩;have:=h1.1.den (r:=ρ) (r':=r) (λk i hki=>by
      obtain⟨rfl,hlt⟩:=hix0 k i hki;exact(hrr k (filH k ss[k] (by simp[hlt]))).symm)
     rw[<-this];exact h2.1.self
 exact⟨H0,hargs _ _ _ hvs hx⟩
variable{fn:Func}{cd:Code}
theorem qr2{g:FuncId}(ss:List q3w)(vs':List Value){R:Value->St->Prop}
  (hG:q32 P G) (hm:P.follows .mixedOrders=true) (hf:P.funcs[g]?=some fn) (hb:fn.body=some cd)
  (hI:∀s∈ss,h₂[s.i]?=some (some s.c)) (hre:PartsRe (partX ss 0) ss) (hap:Apart ss) (hex:∀s∈ss,qr1 s) (hvs:All2 (Re2 (partX ss 0)) vs vs')
  (hwp:initK vs' fn.ntmps λt=>wpC P G ss.length cd (bodyQ P G fn R) ⟨t,partH ss⟩) (H:HOK X ρ h₂ w) (E:ExtOK X ρ h₂ w S) (hx:All2 (Den (Fil h₂) ρ) vs xs) :
  Calls P g ⟨xs⟩ w λe w'=>∃ρ1 v st x,e=.returned x/\HOK ⟨w,subM ρ S ss,ss.length,λk=>ρ (q5g ss k)⟩ ρ1 st.h w'/\Den (Fil st.h) ρ1 v x/\R v st:=by
 obtain⟨H0,hargs⟩:=qhk ss vs' hI hre hap hex hvs H E hx
 exact qd5 (X:=⟨w,subM ρ S ss,ss.length,λk=>ρ (q5g ss k)⟩) (args:=⟨xs⟩) hG hm hf hb H0 hargs hwp
def Selfish(x:Ext):Prop:=∀p S w,x.inv p S w->S p.1
open Classical in
theorem qgw{hE:Hp}{V:Value}(ss:List q3w)(ns:List q38)
  (hI:∀s∈ss,h₂[s.i]?=some (some s.c)) (hNw:∀n∈ns,h₂[n.i]?=some none) (hre:PartsRe (partX ss 0) ss) (hap:Apart ss) (hmi:∀n∈ns,n.d.own=true/\(0<n.d.n\/Selfish n.d.x)) (hne:∀n∈ns,∀m∈ns,(n.i=m.i\/n.k=m.k)->n=m) {w':World} {ρ1:Rz} {v x:Value} (H:HOK X ρ h₂ w) (E:ExtOK X ρ h₂ w S)
  (H1:HOK ⟨w,subM ρ S ss,ss.length,λk=>ρ (q5g ss k)⟩ ρ1 hE w') (hdx:Den (Fil hE) ρ1 v x)
  (hV:Re (partX ss 0++madeX ns) V v) (hS:PostS (partX ss 0++madeX ns) hE ss 0) (hN:PostN (partX ss 0++madeX ns) hE ss.length ns)
  (hSx:∀(l:Nat)(s:q3w),ss[l]?=some s->s.e.own=true->s.d.x=Ext.none\/∃c,hE[l]?=some (some c)/\s.d.x=c.x) (hNx:∀n∈ns,n.d.x=Ext.none\/∃c,hE[n.k]?=some (some c)/\n.d.x=c.x) :
  ∃ρ',AgreeOn (Fil h₂) ρ ρ'/\HOK X ρ' (modH h₂ (partM ss++madeM ns)) w'/\Den (Fil (modH h₂ (partM ss++madeM ns))) ρ' V x:=by
 let σ:Nat->Nat:=q5g ss
 have hσ:∀k s,ss[k]?=some s->σ k=s.i:=λk s hk=>by show(match ss[k]? with|some s=>s.i|none=>0)=s.i;rw[hk]
 let M':Addr->Prop:=subM ρ S ss
 have hsz:w.heap.size<=w'.heap.size:=H1.evo.size
 obtain⟨S1,E1⟩:=H1.ext
 have hbase:∀k s,ss[k]?=some s->Fil hE k/\ρ1 k=ρ s.i:=λk s hk=>by
  obtain⟨h1,h2⟩:=H1.base k (xe.1 hk).1;exact⟨h1,h2.trans (by show ρ (σ k)=_;rw[hσ k s hk])⟩
 have may:∀b,May ⟨w,M',ss.length,λk=>ρ (σ k)⟩ b->w.heap.size<=b\/∃s∈ss,s.e.own=true/\S s.i b:=λb hb=>by
  rcases hb with hb|⟨hb,_⟩
  .exact .inl hb
  .exact .inr (qjq hb)
 have mayX:∀b,(w.heap.size<=b\/∃s∈ss,s.e.own=true/\S s.i b)->May X b:=λb hb=>by
  rcases hb with hb|⟨s,hs,_,hb⟩
  .exact .inl (xH H.evo.size hb)
  .exact(E.mine _ _ b (hI s hs) hb).2.2
 have hnew:∀n∈ns,w.heap.size<=(ρ1 n.k).1\/∃s∈ss,s.e.own=true/\S s.i (ρ1 n.k).1:=λn hn=>by
  obtain⟨hk,c,hc,ho,hle,_⟩:=hN.at n hn;obtain⟨hdo,hpos⟩:=hmi n hn;rcases hpos with hpos|hself
  .rcases(H1.own n.k c hc (ho hdo) 0 (xh hpos hle)).2 with h|h|h
   .exact .inl h
   .obtain⟨_,s,hs,hso,hbl,_⟩:=h;obtain⟨l,hl,hlt⟩:=yB hs;have hl':ss[l]?=some s:=by rw[xn hl,hlt]
    obtain⟨⟨d,hd⟩,hρ⟩:=hbase l s hl';have:=H1.sep n.k c l d hc (ho hdo) hd Q4P;rw[hρ] at this;exact absurd hbl this
   .exact .inr h
  .rcases hNx n hn with e|⟨c',hc',e⟩
   .have:=hself (0,0) (λ_=>False) w (by rw[e];exact λ_ h=>h);exact this.elim
   .have:=hself _ _ _ (by rw[e];exact E1.inv _ _ hc');exact may _ (E1.mine _ _ _ hc' this).2.2
 let ρ':Nat->Nat×Nat:=λj=>if hj:∃n∈ns,n.i=j then ρ1 (Classical.choose hj).k else ρ j
 have ρnew:∀n∈ns,ρ' n.i=ρ1 n.k:=λn hn=>by
  have hj:∃m∈ns,m.i=n.i:=⟨n,hn,rfl⟩;have hc:=Classical.choose_spec hj;have:Classical.choose hj=n:=hne _ hc.1 _ hn (.inl hc.2);show(if hj:∃m∈ns,m.i=n.i then ρ1 (Classical.choose hj).k else ρ n.i)=_;rw[dif_pos hj,this]
 have ρold:∀j,Fil h₂ j->ρ' j=ρ j:=λj ⟨c,hc⟩=>by
  have:¬ ∃n∈ns,n.i=j:=fun⟨n,hn,he⟩=>by
   have:=hNw n hn;rw[he,hc] at this;simp at this
  show(if hj:∃m∈ns,m.i=j then ρ1 (Classical.choose hj).k else ρ j)=_;rw[dif_neg this]
 have filS:∀s∈ss,Fil h₂ s.i:=λs hs=>⟨_,hI s hs⟩
 let ms:Mz:=partM ss++madeM ns
 have fil:∀k,Fil h₂ k->Fil (modH h₂ ms) k:=λk hk=>hk.mod
 have filN:∀n∈ns,Fil (modH h₂ ms) n.i:=λn hn=>
  qoo (m:=(n.i,n.d)) (zd _ (madeM_mem.2 ⟨n,hn,rfl⟩)) (xe.1 (hNw n hn)).1
 have hix:∀k i,(k,i)∈partX ss 0++madeX ns->Fil (modH h₂ ms) i/\ρ' i=ρ1 k:=λk i hki=>by
  rcases yZ.1 hki with hki|hki
  .obtain⟨l,s,hl,rfl,rfl⟩:=partX_mem.1 hki;have hmem:=xy hl;rw[xl];exact⟨fil _ (filS s hmem),(ρold _ (filS s hmem)).trans (hbase l s hl).2.symm⟩
  .obtain⟨n,hn,rfl,rfl⟩:=madeX_mem.1 hki;exact⟨filN n hn,ρnew n hn⟩
 have hden:∀r,AgreeOn (Fil (modH h₂ ms)) ρ' r->∀k i,(k,i)∈partX ss 0++madeX ns->r i=ρ1 k:=λr hrr k i hki=>by
  obtain⟨h1,h2⟩:=hix k i hki;exact(hrr i h1).trans h2
 have get:∀k e,(modH h₂ ms)[k]?=some (some e)->(∃(l:Nat)(s:q3w),ss[l]?=some s/\s.e.own=true/\s.i=k/\s.d=e)\/(∃n∈ns,n.i=k/\n.d=e)\/((∀s∈ss,s.e.own=true->s.i≠k)/\h₂[k]?=some (some e)):=λk e hk=>by
  rcases qjp hk with ⟨m,hm,h1,h2⟩|⟨h1,h2⟩
  .rcases yZ.1 hm with hm|hm
   .obtain⟨s,hs,ho,rfl⟩:=partM_mem.1 hm;obtain⟨l,hl,hlt⟩:=yB hs;exact .inl ⟨l,s,by rw[xn hl,hlt],ho,h1,h2⟩
   .obtain⟨n,hn,rfl⟩:=madeM_mem.1 hm;exact .inr (.inl ⟨n,hn,h1,h2⟩)
  .exact .inr (.inr ⟨λs hs ho=>h1 _ (List.mem_append_left _ (partM_mem.2 ⟨s,hs,ho,rfl⟩)),h2⟩)
 let Inn:Nat->Nat->Prop:=λk l=>(∃s,ss[l]?=some s/\s.e.own=true/\s.i=k)\/∃n∈ns,n.i=k/\n.k=l
 have innU:∀k l l',Inn k l->Inn k l'->l=l':=λk l l' h1 h2=>by
  rcases h1 with ⟨s,hs,ho,rfl⟩|⟨n,hn,rfl,rfl⟩<;>rcases h2 with ⟨t,ht,ho',e⟩|⟨m,hm,e,rfl⟩
  .exact Classical.byContradiction λhll=>hap.at l l' s t hs ht hll ho e.symm
  .have h1:=hNw m hm;rw[e,hI s (xy hs)] at h1;simp at h1
  .have h1:=hNw n hn;rw[<-e,hI t (xy ht)] at h1;simp at h1
  .rw[hne n hn m hm (.inl e.symm)]
 have innV:∀k k' l,Inn k l->Inn k' l->k=k':=λk k' l h1 h2=>by
  rcases h1 with ⟨s,hs,ho,rfl⟩|⟨n,hn,rfl,rfl⟩<;>rcases h2 with ⟨t,ht,ho',e⟩|⟨m,hm,e,e'⟩
  .rw[hs] at ht;obtain rfl:s=t:=by simpa using ht
   exact e
  .have:=(hN.at m hm).1;have:=(xe.1 hs).1;omega
  .have:=(hN.at n hn).1;have:=(xe.1 ht).1;omega
  .rw[hne n hn m hm (.inr e'.symm)];exact e
 have inn:∀k e,(modH h₂ ms)[k]?=some (some e)->(∃l c,Inn k l/\hE[l]?=some (some c)/\ρ' k=ρ1 l/\(e.own=true->c.own=true)/\e.n<=c.n/\(∀j,j<e.n->Re1 (partX ss 0++madeX ns) (e.f j) (c.f j))/\(e.x=Ext.none\/e.x=c.x))\/((∀l,¬ Inn k l)/\(∀s∈ss,s.e.own=true->s.i≠k)/\h₂[k]?=some (some e)/\ρ' k=ρ k):=λk e hk=>by
  rcases get k e hk with ⟨l,s,hl,ho,rfl,rfl⟩|⟨n,hn,rfl,rfl⟩|⟨hnn,hk⟩
  .have hmem:=xy hl;obtain⟨c,hc,hoc,hle,hR⟩:=hS.at l s hl ho;rw[xl] at hc;refine .inl ⟨l,c,.inl ⟨s,hl,ho,rfl⟩,hc,?_,hoc,hle,hR,?_⟩
   .rw[ρold _ (filS s hmem),(hbase l s hl).2]
   .rcases hSx l s hl ho with e|⟨c',hc',e⟩
    .exact .inl e
    exact Q2x
  .obtain⟨_,c,hc,hoc,hle,hR⟩:=hN.at n hn;refine .inl ⟨n.k,c,.inr ⟨n,hn,rfl,rfl⟩,hc,ρnew n hn,hoc,hle,hR,?_⟩;rcases hNx n hn with e|⟨c',hc',e⟩
   .exact .inl e
   exact Q2x
  .refine .inr ⟨λl hl=>?_,hnn,hk,ρold k ⟨e,hk⟩⟩;rcases hl with ⟨s,hs,ho,rfl⟩|⟨n,hn,rfl,rfl⟩
   .exact hnn s (xy hs) ho rfl
   .rw[hNw n hn] at hk;simp at hk
 have innIn:∀k l,Inn k l->∀b,(b=(ρ1 l).1\/∃c,hE[l]?=some (some c)/\S1 l b)->w.heap.size<=b\/(∃s∈ss,s.e.own=true/\S s.i b)\/∃s∈ss,s.e.own=true/\b=(ρ s.i).1:=λk l hl b hb=>by
  rcases hb with rfl|⟨c,hc,hb⟩
  .rcases hl with ⟨s,hs,ho,rfl⟩|⟨n,hn,rfl,rfl⟩
   .exact .inr (.inr ⟨s,xy hs,ho,by rw[(hbase l s hs).2]⟩)
   .rcases hnew n hn with h|h
    .exact .inl h
    .exact .inr (.inl h)
  .rcases may b (E1.mine l c b hc hb).2.2 with h|h
   .exact .inl h
   .exact .inr (.inl h)
 have out:∀b,b<w.heap.size->(∀s∈ss,s.e.own=true->b≠(ρ s.i).1/\¬ S s.i b)->w'.heap[b]?=w.heap[b]?:=λb hb hn=>
  H1.evo.same hb (λhm=>by obtain⟨s,hs,ho,h⟩:=qjq hm;exact(hn s hs ho).2 h) λj hm=>by
   rcases hm with ⟨_,s,hs,hso,hbl,_⟩|⟨s,hs,ho,h⟩
   .exact(hn s hs hso).1 hbl
   .exact(hn s hs ho).2 h
 have apartO:∀k e,(∀s∈ss,s.e.own=true->s.i≠k)->h₂[k]?=some (some e)->∀s∈ss,s.e.own=true->(ρ k).1≠(ρ s.i).1/\¬ S s.i (ρ k).1:=λk e hnn hk s hs ho=>by
  refine⟨λe'=>H.sep _ _ _ _ (hI s hs) ((hre.at s hs).1 ho).1 hk (hnn s hs ho) e'.symm,λhb=>?_⟩;exact(E.apart _ _ _ _ _ (hI s hs) hb hk λe=>hnn s hs ho e.symm).1 rfl
 have apartS:∀k e b,(∀s∈ss,s.e.own=true->s.i≠k)->h₂[k]?=some (some e)->S k b->∀s∈ss,s.e.own=true->b≠(ρ s.i).1/\¬ S s.i b:=λk e b hnn hk hb s hs ho=>by
  obtain⟨h1,h2⟩:=E.apart _ _ b _ _ hk hb (hI s hs) (hnn s hs ho);exact⟨λe=>h1 e.symm,h2⟩
 have same:∀k c',h₂[k]?=some (some c')->(∀s∈ss,s.e.own=true->s.i≠k)->w'.heap[(ρ k).1]?=w.heap[(ρ k).1]?:=λk c' hk hnn=>
  out _ (H.lt _ _ hk) (apartO k c' hnn hk)
 refine⟨ρ',λk hk=>ρold k hk,?_,?_⟩
 .show HOK X ρ' (modH h₂ ms) w';refine⟨H.evo.into H1.evo (λp hp=>?_) λp j hj=>?_,λk hk=>⟨fil k (H.base k hk).1,(ρold k (H.base k hk).1).trans (H.base k hk).2⟩,λk e hk=>?_,λk e hk j hj=>?_,λk e hk hoe j hj=>?_,λk e l f' hk hoe hlf hnel=>?_,?_⟩
  .obtain⟨s,hs,ho,h⟩:=qjq hp;rcases(E.mine _ _ _ (hI s hs) h).2.2 with h|h
   .exact .inl h
   .exact .inr h.1
  .rcases hj with ⟨_,s,hs,hso,hbl,h1,h2⟩|⟨s,hs,ho,h⟩
   .have hbl:p=(ρ s.i).1:=hbl;have h1:(ρ s.i).2<=j:=h1;have h2:j<(ρ s.i).2+s.c.n:=h2;have:=(H.own _ _ (hI s hs) ((hre.at s hs).1 hso).1 (j-(ρ s.i).2) Q4P).2;rw[show(ρ s.i).2+(j-(ρ s.i).2)=j by omega,<-hbl] at this;exact this
   .rcases(E.mine _ _ _ (hI s hs) h).2.2 with h|h
    .exact .inl h
    .exact .inr (h.2 j)
  .rcases inn k e hk with ⟨l,c,_,hc,hρ,_⟩|⟨_,_,hk,hρ⟩
   .rw[hρ];exact H1.lt _ _ hc
   .rw[hρ];exact xh (H.lt _ _ hk) hsz
  .rcases inn k e hk with ⟨l,c,_,hc,hρ,_,hle,hR,_⟩|⟨_,hnn,hk,hρ⟩
   .obtain⟨y,hy,hdy⟩:=H1.cell l c hc j (xh hj hle);rw[hρ];exact⟨y,hy,λr hrr=>((hR j hj).den (hden r hrr)).trans hdy.self⟩
   .obtain⟨y,hy,hdy⟩:=H.cell _ _ hk j hj;rw[hρ];refine⟨y,?_,hdy.more (λi hi=>ρold i hi) fil⟩;have:=same k e hk hnn;rw[<-hy];unfold World.cell?;simp only[this]
  .rcases get k e hk with ⟨l,s,hl,ho,rfl,rfl⟩|⟨n,hn,rfl,rfl⟩|⟨hnn,hk⟩
   .have hmem:=xy hl;obtain⟨c,hc,hoc,hle,hR⟩:=hS.at l s hl ho;rw[xl] at hc;have h1:=(H1.own l c hc (hoc hoe) j (xh hj hle)).1;rw[(hbase l s hl).2] at h1;rw[ρold _ (filS s hmem)];obtain⟨hco,hdn⟩:=(hre.at s hmem).1 ho;exact⟨h1,(H.own _ _ (hI s hmem) hco j (xh hj hdn)).2⟩
   .obtain⟨_,c,hc,hoc,hle,_⟩:=hN.at n hn;rw[ρnew n hn];refine⟨(H1.own n.k c hc (hoc hoe) j (xh hj hle)).1,?_⟩;rcases mayX _ (hnew n hn) with h|h
    .exact .inl h
    .exact .inr (h.2 _)
   .obtain⟨hy,hdy⟩:=H.own _ _ hk hoe j hj;rw[ρold k ⟨e,hk⟩];refine⟨?_,hdy⟩;have:=same k e hk hnn;rw[<-hy];unfold World.frozen?;simp only[this]
  .rcases inn k e hk with ⟨i1,c,hi1,hc,hρ,hoc,_⟩|⟨hin,hnn,hk,hρ⟩<;>rcases inn l f' hlf with ⟨i2,c',hi2,hc',hρ2,_⟩|⟨hin2,hnn2,hlf,hρ2⟩
   .rw[hρ,hρ2];exact H1.sep _ _ _ _ hc (hoc hoe) hc' λei=>hnel (innV _ _ i1 hi1 (by rw[ei];exact hi2))
   .rw[hρ,hρ2];have h1:=H.lt _ _ hlf;have h2:=apartO l f' hnn2 hlf;rcases innIn _ _ hi1 _ (.inl rfl) with h|⟨s,hs,ho,h⟩|⟨s,hs,ho,h⟩
    .omega
    .exact λe=>(h2 s hs ho).2 (e▸h)
    .exact λe=>(h2 s hs ho).1 (e▸h)
   .rw[hρ,hρ2];have h1:=H.lt _ _ hk;have h2:=apartO k e hnn hk;rcases innIn _ _ hi2 _ (.inl rfl) with h|⟨s,hs,ho,h⟩|⟨s,hs,ho,h⟩
    .omega
    .exact λe=>(h2 s hs ho).2 (e.symm▸h)
    .exact λe=>(h2 s hs ho).1 (e.trans h)
   .rw[hρ,hρ2];exact H.sep _ _ _ _ hk hoe hlf hnel
  .refine⟨λk b=>∃e,(modH h₂ ms)[k]?=some (some e)/\e.x≠Ext.none/\((∃l,Inn k l/\S1 l b)\/((∀l,¬ Inn k l)/\S k b)),λk e hk=>?_,λk e b hk hS'=>?_,λk e b l d hk hS' hl hnel=>?_⟩
   .by_cases en:e.x=Ext.none
    .rw[en];rintro b ⟨e',he',h1,_⟩;rw[hk] at he';obtain rfl:e=e':=by simpa using he'
     exact h1 en
    .rcases inn k e hk with ⟨l,c,hil,hc,hρ,_,_,_,hx⟩|⟨hin,hnn,hk2,hρ⟩
     .have:(λb=>∃e,(modH h₂ ms)[k]?=some (some e)/\e.x≠Ext.none/\((∃l,Inn k l/\S1 l b)\/((∀l,¬ Inn k l)/\S k b)))=S1 l:=by
       funext b;refine propext ⟨?_,λh=>⟨e,hk,en,.inl ⟨l,hil,h⟩⟩⟩;rintro⟨e',_,_,⟨l',hl',h⟩|⟨h,_⟩⟩
       .rw[innU k l l' hil hl'];exact h
       .exact absurd hil (h l)
      rw[this,hρ];rcases hx with hx|hx
      .exact absurd hx en
      .rw[hx];exact E1.inv l c hc
     .have:(λb=>∃e,(modH h₂ ms)[k]?=some (some e)/\e.x≠Ext.none/\((∃l,Inn k l/\S1 l b)\/((∀l,¬ Inn k l)/\S k b)))=S k:=by
       funext b;refine propext ⟨?_,λh=>⟨e,hk,en,.inr ⟨hin,h⟩⟩⟩;rintro⟨e',_,_,⟨l',hl',h⟩|⟨_,h⟩⟩
       .exact absurd hl' (hin l')
       .exact h
      rw[this,hρ];exact e.x.keep (E.inv k e hk2) λb hb=>out b (E.mine k e b hk2 hb).2.1 (apartS k e b hnn hk2 hb)
   .obtain⟨e',he',_,hS'⟩:=hS';rcases inn k e hk with ⟨l,c,hil,hc,hρ,_,hle,_,hx⟩|⟨hin,hnn,hk2,hρ⟩
    .rcases hS' with ⟨l',hl',hb⟩|⟨h,_⟩
     .obtain rfl:=innU k l l' hil hl';obtain⟨h1,h2,h3⟩:=E1.mine l c b hc hb;exact⟨by rw[hρ];omega,h2,mayX b (may b h3)⟩
     .exact absurd hil (h l)
    .rcases hS' with ⟨l',hl',hb⟩|⟨_,hb⟩
     .exact absurd hl' (hin l')
     .obtain⟨h1,h2,h3⟩:=E.mine k e b hk2 hb;exact⟨by rw[hρ];exact h1,xh h2 hsz,h3⟩
   .obtain⟨e',he',_,hS'⟩:=hS';have key:(ρ' l).1≠b/\¬ ((∃l',Inn l l'/\S1 l' b)\/((∀l',¬ Inn l l')/\S l b)):=by
     rcases inn k e hk with ⟨i1,c,hi1,hc,hρ,_⟩|⟨hin,hnn,hk2,hρ⟩<;>rcases inn l d hl with ⟨i2,c',hi2,hc',hρ2,_⟩|⟨hin2,hnn2,hl2,hρ2⟩
     .rcases hS' with ⟨l',hl',hb⟩|⟨h,_⟩
      .obtain rfl:=innU k i1 l' hi1 hl';obtain⟨h1,h2⟩:=E1.apart i1 c b i2 c' hc hb hc' λei=>hnel (innV _ _ i2 hi2 (by rw[ei];exact hi1))
       refine⟨by rw[hρ2];exact h1,?_⟩;rintro(⟨l'',hl'',hb'⟩|⟨h,_⟩)
       .obtain rfl:=innU l i2 l'' hi2 hl'';exact h2 hb'
       .exact h i2 hi2
      .exact absurd hi1 (h i1)
     .rcases hS' with ⟨l',hl',hb⟩|⟨h,_⟩
      .obtain rfl:=innU k i1 l' hi1 hl';have hb1:=may b (E1.mine i1 c b hc hb).2.2;refine⟨?_,?_⟩
       .rw[hρ2];rcases hb1 with h|⟨s,hs,ho,h⟩
        .have:=H.lt _ _ hl2;omega
        .exact λe=>(apartO l d hnn2 hl2 s hs ho).2 (e▸h)
       .rintro(⟨l'',hl'',hb'⟩|⟨_,hb'⟩)
        .exact hin2 l'' hl''
        .rcases hb1 with h|⟨s,hs,ho,h⟩
         .have:=(E.mine l d b hl2 hb').2.1;omega
         .exact(apartS l d b hnn2 hl2 hb' s hs ho).2 h
      .exact absurd hi1 (h i1)
     .rcases hS' with ⟨l',hl',hb⟩|⟨_,hb⟩
      .exact absurd hl' (hin l')
      .have hlt:=(E.mine k e b hk2 hb).2.1;have hap2:=apartS k e b hnn hk2 hb;refine⟨?_,?_⟩
       .rw[hρ2];intro e3;rcases innIn _ _ hi2 b (.inl e3.symm) with h|⟨s,hs,ho,h⟩|⟨s,hs,ho,h⟩
        .omega
        .exact(hap2 s hs ho).2 h
        .exact(hap2 s hs ho).1 h
       .rintro(⟨l'',hl'',hb'⟩|⟨h,_⟩)
        .obtain rfl:=innU l i2 l'' hi2 hl'';rcases innIn _ _ hi2 b (.inr ⟨c',hc',hb'⟩) with h|⟨s,hs,ho,h⟩|⟨s,hs,ho,h⟩
         .omega
         .exact(hap2 s hs ho).2 h
         .exact(hap2 s hs ho).1 h
        .exact h i2 hi2
     .rcases hS' with ⟨l',hl',hb⟩|⟨_,hb⟩
      .exact absurd hl' (hin l')
      .obtain⟨h1,h2⟩:=E.apart k e b l d hk2 hb hl2 hnel;refine⟨by rw[hρ2];exact h1,?_⟩;rintro(⟨l'',hl'',_⟩|⟨_,hb'⟩)
       .exact hin2 l'' hl''
       .exact h2 hb'
    exact⟨key.1,fun⟨_,_,_,h⟩=>key.2 h⟩
 .intro r hrr;rw[hV.den (hden r hrr)];exact hdx.self
def PartsN:List q3w->Prop
 | []=>True
 | s::r=>(s.e.x=Ext.none/\s.d.x=Ext.none)/\PartsN r
theorem PartsN.at:∀{ss:List q3w},PartsN ss->∀s∈ss,s.e.x=Ext.none/\s.d.x=Ext.none
 | t::r,hp,s,hs=>by
  rcases xf.1 hs with rfl|hs
  .exact hp.1
  .exact PartsN.at hp.2 s hs
theorem qau{g:FuncId}{h:Hp}{V:Value}(ss:List q3w)(ns:List q38)(vs':List Value)
  (hG:q32 P G) (hm:P.follows .mixedOrders=true) (hf:P.funcs[g]?=some fn) (hb:fn.body=some cd) (hr:∀xs w,(callFunc g xs).run P w=.ok (.enter g xs) w)
  (hin:PartsIn h ss) (hre:PartsRe (partX ss 0) ss) (hap:Apart ss) (hmi:MadeIn h ns) (hvs:All2 (Re2 (partX ss 0)) vs vs')
  (hwp:initK vs' fn.ntmps λt=>wpC P G ss.length cd (bodyQ P G fn λv st=>N (Obl (Re (partX ss 0++madeX ns) V v) (N (Obl (PostS (partX ss 0++madeX ns) st.h ss 0) (N (Obl (PostN (partX ss 0++madeX ns) st.h ss.length ns) (N True))))))) ⟨t,partH ss⟩)
  (hex:PartsN ss:=by(first|exact True.intro|exact⟨⟨rfl,rfl⟩,True.intro⟩|exact⟨⟨rfl,rfl⟩,⟨rfl,rfl⟩,True.intro⟩|exact⟨⟨rfl,rfl⟩,⟨rfl,rfl⟩,⟨rfl,rfl⟩,True.intro⟩|exact⟨⟨rfl,rfl⟩,⟨rfl,rfl⟩,⟨rfl,rfl⟩,⟨rfl,rfl⟩,True.intro⟩|exact⟨⟨rfl,rfl⟩,⟨rfl,rfl⟩,⟨rfl,rfl⟩,⟨rfl,rfl⟩,⟨rfl,rfl⟩,True.intro⟩|exact⟨⟨rfl,rfl⟩,⟨rfl,rfl⟩,⟨rfl,rfl⟩,⟨rfl,rfl⟩,⟨rfl,rfl⟩,⟨rfl,rfl⟩,True.intro⟩|exact⟨⟨rfl,rfl⟩,⟨rfl,rfl⟩,⟨rfl,rfl⟩,⟨rfl,rfl⟩,⟨rfl,rfl⟩,⟨rfl,rfl⟩,⟨rfl,rfl⟩,True.intro⟩|exact⟨⟨rfl,rfl⟩,⟨rfl,rfl⟩,⟨rfl,rfl⟩,⟨rfl,rfl⟩,⟨rfl,rfl⟩,⟨rfl,rfl⟩,⟨rfl,rfl⟩,⟨rfl,rfl⟩,True.intro⟩|exact⟨⟨rfl,rfl⟩,⟨rfl,rfl⟩,⟨rfl,rfl⟩,⟨rfl,rfl⟩,⟨rfl,rfl⟩,⟨rfl,rfl⟩,⟨rfl,rfl⟩,⟨rfl,rfl⟩,⟨rfl,rfl⟩,True.intro⟩|exact⟨⟨rfl,rfl⟩,⟨rfl,rfl⟩,⟨rfl,rfl⟩,⟨rfl,rfl⟩,⟨rfl,rfl⟩,⟨rfl,rfl⟩,⟨rfl,rfl⟩,⟨rfl,rfl⟩,⟨rfl,rfl⟩,⟨rfl,rfl⟩,True.intro⟩)) :
  qae P g vs h V (partM ss++madeM ns) (q50 ss):=λh₂ hrd hms X ρ w xs H hx=>by
 have hI:∀s∈ss,h₂[s.i]?=some (some s.c):=λs hs=>Q1k
 have hNw:∀n∈ns,h₂[n.i]?=some none:=λn hn=>(hms (n.i,n.d) (zd _ (madeM_mem.2 ⟨n,hn,rfl⟩))).trans (hmi.at n hn).1
 obtain⟨S,E⟩:=H.ext
 refine .inr ⟨hr _ w,?_⟩
 refine(qr2 ss vs' hG hm hf hb hI hre hap (λs hs=>.inl (hex.at s hs).1) hvs hwp H E hx).mono ?_
 rintro e w' ⟨ρ1,v,st,x,rfl,H1,hdx,hq⟩
 have q1:Re (partX ss 0++madeX ns) V v/\N _:=N.out hq
 have q2:PostS (partX ss 0++madeX ns) st.h ss 0/\N _:=N.out q1.2
 have q3:PostN (partX ss 0++madeX ns) st.h ss.length ns/\N True:=N.out q2.2
 exact⟨x,rfl,qgw ss ns hI hNw hre hap (λn hn=>⟨(hmi.at n hn).2.1,.inl (hmi.at n hn).2.2.1⟩) (λn hn m hm=>hmi.ne n hn m hm) H E H1 hdx q1.1 q2.1 q3.1 (λl s hl _=>.inl (hex.at s (xy hl)).2) λn hn=>.inl (hmi.at n hn).2.2.2⟩
def setD:List q3w->List Chunk->List q3w
 | [],_=>[]
 | s::r,[]=>s::setD r []
 | s::r,d::ds=>⟨s.i,s.c,s.e,d⟩::setD r ds
theorem qgx:∀(ss:List q3w),setD ss []=ss
 | []=>rfl
 | s::r=>by simp[setD,qgx r]
theorem qfl{β:Type}(f:Nat->Chunk->Chunk->β):∀(ss:List q3w)(ds:List Chunk),(setD ss ds).map (λs=>f s.i s.c s.e)=ss.map (λs=>f s.i s.c s.e)
 | [],_=>rfl
 | s::r,[]=>by simp[setD,qgx]
 | s::r,d::ds=>by simp only[setD,xk,qfl f r ds]
theorem qgy(ss:List q3w)(ds:List Chunk):(setD ss ds).length=ss.length:=by
 have:=congrArg List.length (qfl (λi _ _=>i) ss ds);simpa using this
theorem qfm:∀(ss:List q3w)(ds:List Chunk)(k:Nat),partX (setD ss ds) k=partX ss k
 | [],_,_=>rfl
 | s::r,[],k=>by rw[qgx]
 | s::r,d::ds,k=>by simp only[setD,partX,qfm r ds]
variable{ds:List Chunk}
theorem qgz{s:q3w}(h:s∈setD ss ds):∃t∈ss,t.i=s.i/\t.c=s.c/\t.e=s.e:=by
 have:=qfl (λi c e=>(i,c,e)) ss ds;have hm:(s.i,s.c,s.e)∈(setD ss ds).map (λs=>(s.i,s.c,s.e)):=xx.2 ⟨s,h,rfl⟩;rw[this] at hm;obtain⟨t,ht,e⟩:=xx.1 hm;simp only[Prod.mk.injEq] at e;exact⟨t,ht,e.1,e.2.1,e.2.2⟩
theorem qr3{t:q3w}(h:t∈ss):∃s∈setD ss ds,t.i=s.i/\t.c=s.c/\t.e=s.e:=by
 have:=qfl (λi c e=>(i,c,e)) ss ds;have hm:(t.i,t.c,t.e)∈ss.map (λs=>(s.i,s.c,s.e)):=xx.2 ⟨t,h,rfl⟩;rw[<-this] at hm;obtain⟨s,hs,e⟩:=xx.1 hm;simp only[Prod.mk.injEq] at e;exact⟨s,hs,e.1.symm,e.2.1.symm,e.2.2.symm⟩
theorem qxt(ss:List q3w)(ds:List Chunk):q5g (setD ss ds)=q5g ss:=by
 funext k;have:=congrArg (λl=>l[k]?) (qfl (λi _ _=>i) ss ds);simp only[xN] at this;unfold q5g;cases h1:(setD ss ds)[k]?<;>cases h2:ss[k]?<;>simp_all
theorem qxu(ρ:Rz)(S:Nat->Nat->Prop)(ss:List q3w)(ds:List Chunk):subM ρ S (setD ss ds)=subM ρ S ss:=by
 funext a;unfold subM;refine propext ⟨λh=>?_,λh=>?_⟩
 .rcases h with ⟨h,s,hs,h1⟩|⟨s,hs,h1⟩<;>obtain⟨t,ht,e1,e2,e3⟩:=qgz hs
  .exact .inl ⟨h,t,ht,by rw[e1,e2,e3];exact h1⟩
  .exact .inr ⟨t,ht,by rw[e1,e3];exact h1⟩
 .rcases h with ⟨h,s,hs,h1⟩|⟨s,hs,h1⟩<;>obtain⟨t,ht,e1,e2,e3⟩:=qr3 (ds:=ds) hs
  .exact .inl ⟨h,t,ht,by rw[<-e1,<-e2,<-e3];exact h1⟩
  .exact .inr ⟨t,ht,by rw[<-e1,<-e3];exact h1⟩
theorem qf9:∀{ss:List q3w}{ds:List Chunk},Apart ss->Apart (setD ss ds)
 | [],_,_=>trivial
 | s::r,[],h=>by rw[qgx];exact h
 | s::r,d::ds,h=>⟨λt ht ho=>by
   obtain⟨t',ht',e1,_,e3⟩:=qgz ht;have:=h.1 t' ht' (by rw[e3];exact ho);rw[e1] at this;exact this,qf9 h.2⟩
def q7z{α:Type}(p:α->Prop):Prop:=∃κ,p κ
theorem Bh{α:Type}{p:α->Prop}(κ:α)(h:p κ):N (q7z p):=N.mk ⟨κ,h⟩
theorem qnc{α:Type}{g:FuncId}{h:Hp}(ok:α->Prop)(V:α->Value)(ss:List q3w)(dd:α->List Chunk)(ns:α->List q38)(vs':List Value)
  (hG:q32 P G) (hm:P.follows .mixedOrders=true) (hf:P.funcs[g]?=some fn) (hb:fn.body=some cd) (hr:∀xs w,(callFunc g xs).run P w=.ok (.enter g xs) w)
  (hin:PartsIn h ss) (hre0:PartsRe (partX ss 0) ss) (hre:∀κ,ok κ->PartsRe (partX ss 0) (setD ss (dd κ))) (hap:Apart ss) (hmi:∀κ,ok κ->MadeIn h (ns κ)) (hvs:All2 (Re2 (partX ss 0)) vs vs')
  (hwp:initK vs' fn.ntmps λt=>wpC P G ss.length cd (bodyQ P G fn λv st=>N (q7z λκ=>ok κ/\N (Obl (Re (partX ss 0++madeX (ns κ)) (V κ) v) (N (Obl (PostS (partX ss 0++madeX (ns κ)) st.h (setD ss (dd κ)) 0) (N (Obl (PostN (partX ss 0++madeX (ns κ)) st.h ss.length (ns κ)) (N True)))))))) ⟨t,partH ss⟩)
  (hex0:PartsN ss:=by(first|exact True.intro|exact⟨⟨rfl,rfl⟩,True.intro⟩|exact⟨⟨rfl,rfl⟩,⟨rfl,rfl⟩,True.intro⟩|exact⟨⟨rfl,rfl⟩,⟨rfl,rfl⟩,⟨rfl,rfl⟩,True.intro⟩|exact⟨⟨rfl,rfl⟩,⟨rfl,rfl⟩,⟨rfl,rfl⟩,⟨rfl,rfl⟩,True.intro⟩|exact⟨⟨rfl,rfl⟩,⟨rfl,rfl⟩,⟨rfl,rfl⟩,⟨rfl,rfl⟩,⟨rfl,rfl⟩,True.intro⟩|exact⟨⟨rfl,rfl⟩,⟨rfl,rfl⟩,⟨rfl,rfl⟩,⟨rfl,rfl⟩,⟨rfl,rfl⟩,⟨rfl,rfl⟩,True.intro⟩|exact⟨⟨rfl,rfl⟩,⟨rfl,rfl⟩,⟨rfl,rfl⟩,⟨rfl,rfl⟩,⟨rfl,rfl⟩,⟨rfl,rfl⟩,⟨rfl,rfl⟩,True.intro⟩|exact⟨⟨rfl,rfl⟩,⟨rfl,rfl⟩,⟨rfl,rfl⟩,⟨rfl,rfl⟩,⟨rfl,rfl⟩,⟨rfl,rfl⟩,⟨rfl,rfl⟩,⟨rfl,rfl⟩,True.intro⟩|exact⟨⟨rfl,rfl⟩,⟨rfl,rfl⟩,⟨rfl,rfl⟩,⟨rfl,rfl⟩,⟨rfl,rfl⟩,⟨rfl,rfl⟩,⟨rfl,rfl⟩,⟨rfl,rfl⟩,⟨rfl,rfl⟩,True.intro⟩|exact⟨⟨rfl,rfl⟩,⟨rfl,rfl⟩,⟨rfl,rfl⟩,⟨rfl,rfl⟩,⟨rfl,rfl⟩,⟨rfl,rfl⟩,⟨rfl,rfl⟩,⟨rfl,rfl⟩,⟨rfl,rfl⟩,⟨rfl,rfl⟩,True.intro⟩)) (hex:∀κ,ok κ->PartsN (setD ss (dd κ)):=by(intro κ _;(first|exact True.intro|exact⟨⟨rfl,rfl⟩,True.intro⟩|exact⟨⟨rfl,rfl⟩,⟨rfl,rfl⟩,True.intro⟩|exact⟨⟨rfl,rfl⟩,⟨rfl,rfl⟩,⟨rfl,rfl⟩,True.intro⟩|exact⟨⟨rfl,rfl⟩,⟨rfl,rfl⟩,⟨rfl,rfl⟩,⟨rfl,rfl⟩,True.intro⟩|exact⟨⟨rfl,rfl⟩,⟨rfl,rfl⟩,⟨rfl,rfl⟩,⟨rfl,rfl⟩,⟨rfl,rfl⟩,True.intro⟩|exact⟨⟨rfl,rfl⟩,⟨rfl,rfl⟩,⟨rfl,rfl⟩,⟨rfl,rfl⟩,⟨rfl,rfl⟩,⟨rfl,rfl⟩,True.intro⟩|exact⟨⟨rfl,rfl⟩,⟨rfl,rfl⟩,⟨rfl,rfl⟩,⟨rfl,rfl⟩,⟨rfl,rfl⟩,⟨rfl,rfl⟩,⟨rfl,rfl⟩,True.intro⟩|exact⟨⟨rfl,rfl⟩,⟨rfl,rfl⟩,⟨rfl,rfl⟩,⟨rfl,rfl⟩,⟨rfl,rfl⟩,⟨rfl,rfl⟩,⟨rfl,rfl⟩,⟨rfl,rfl⟩,True.intro⟩|exact⟨⟨rfl,rfl⟩,⟨rfl,rfl⟩,⟨rfl,rfl⟩,⟨rfl,rfl⟩,⟨rfl,rfl⟩,⟨rfl,rfl⟩,⟨rfl,rfl⟩,⟨rfl,rfl⟩,⟨rfl,rfl⟩,True.intro⟩|exact⟨⟨rfl,rfl⟩,⟨rfl,rfl⟩,⟨rfl,rfl⟩,⟨rfl,rfl⟩,⟨rfl,rfl⟩,⟨rfl,rfl⟩,⟨rfl,rfl⟩,⟨rfl,rfl⟩,⟨rfl,rfl⟩,⟨rfl,rfl⟩,True.intro⟩))) :
  CallAll P g vs h λv ms=>∃κ,ok κ/\v=V κ/\ms=partM (setD ss (dd κ))++madeM (ns κ):=λX ρ w xs H hx=>by
 obtain⟨S,E⟩:=H.ext
 refine .inr ⟨hr _ w,?_⟩
 refine(qr2 ss vs' hG hm hf hb (λs hs=>hin.at s hs) hre0 hap (λs hs=>.inl (hex0.at s hs).1) hvs hwp H E hx).mono ?_
 rintro e w' ⟨ρ1,v,st,x,rfl,H1,hdx,hq⟩
 obtain⟨κ,hok,hq⟩:=N.out hq
 have q1:Re (partX ss 0++madeX (ns κ)) (V κ) v/\N _:=N.out hq
 have q2:PostS (partX ss 0++madeX (ns κ)) st.h (setD ss (dd κ)) 0/\N _:=N.out q1.2
 have q3:PostN (partX ss 0++madeX (ns κ)) st.h ss.length (ns κ)/\N True:=N.out q2.2
 obtain⟨ρ',ha,hh,hd⟩:=qgw (h₂:=h) (hE:=st.h) (V:=V κ) (setD ss (dd κ)) (ns κ) (λs hs=>by
  obtain⟨t,ht,e1,e2,_⟩:=qgz hs;rw[<-e1,<-e2];exact hin.at t ht) (λn hn=>((hmi κ hok).at n hn).1) (by rw[qfm];exact hre κ hok) (qf9 hap) (λn hn=>⟨((hmi κ hok).at n hn).2.1,.inl ((hmi κ hok).at n hn).2.2.1⟩) (λn hn m hm=>(hmi κ hok).ne n hn m hm) H E
  (by rw[qxu,qxt,qgy];exact H1) hdx (by rw[qfm];exact q1.1) (by rw[qfm];exact q2.1) (by rw[qfm,qgy];exact q3.1) (λl s hl _=>.inl ((hex κ hok).at s (xy hl)).2) λn hn=>.inl ((hmi κ hok).at n hn).2.2.2
 exact⟨x,rfl,V κ,_,ρ',⟨κ,hok,rfl,rfl⟩,ha,hh,hd⟩
end
theorem q36(n:Int)(h0 : -9223372036854775808<=n)(h1:n<9223372036854775808):IntKind.i64.wrap n=n:=by rw[yt];omega
theorem q4w{p:Prop}[Decidable p](h:b=true↔p):Value.bool b=.bool (decide p):=by
 congr 1;rw[Bool.eq_iff_iff,h,decide_eq_true_iff]
end Go.Proofs.YtggfpcfkbilkmaaGreatDoor.Sx
