/-
  The evaluator: regions that draw their order, calls, loops, contracts with chunks.
-/
import Derived.Scope
import Derived.KernelRfl
import Derived.Test.YtfkngpmgcimdbaaGreatProg
import Derived.Test.YtfkngpmgcimdbaaGreatR1
set_option linter.unusedVariables false
set_option linter.unusedSimpArgs false
set_option maxRecDepth 100000
set_option maxHeartbeats 20000000
theorem Go.Proofs.xi:type_of% @List.mem_cons:=@List.mem_cons
theorem Go.Proofs.zr:type_of% @List.getElem?_append_right:=@List.getElem?_append_right
theorem Go.Proofs.zu:type_of% @Array.getElem?_setIfInBounds:=@Array.getElem?_setIfInBounds
theorem Go.Proofs.zy:type_of% @List.getElem?_append_left:=@List.getElem?_append_left
theorem Go.Proofs.y7:type_of% @List.length_eq_zero_iff:=@List.length_eq_zero_iff
theorem Go.Proofs.xP:type_of% @Nat.lt_or_ge:=@Nat.lt_or_ge
theorem Go.Proofs.xh:type_of% @decide_eq_true_eq:=@decide_eq_true_eq
theorem Go.Proofs.yr:type_of% @List.length_append:=@List.length_append
theorem Go.Proofs.xA:type_of% @Nat.lt_trans:=@Nat.lt_trans
theorem Go.Proofs.xL:type_of% @List.mem_of_getElem?:=@List.mem_of_getElem?
theorem Go.Proofs.yJ:type_of% @List.mem_append:=@List.mem_append
theorem Go.Proofs.zd:type_of% @List.map_append:=@List.map_append
theorem Go.Proofs.xw:type_of% @Go.IntKind.wrap_i64:=@Go.IntKind.wrap_i64
theorem Go.Proofs.xk:type_of% @Go.IntKind.wrap_u64:=@Go.IntKind.wrap_u64
open Go.Proofs.Tryz
namespace Go.Proofs
section
variable{Z Y:Prop}
theorem Q2z(h:Z:=by
 have hmem:i∈Region.ready .any ops listed:=mem_ready.2 ⟨by
  have hil:i<listed.size:=by omega
  simp[yP,zx hil] at hl ⊢;exact hl,ops[i],zx hi,λe hee hb=>by
   have hlt:=qii he i ops[i] (by simp[hi]) e (by simpa using hee) hb
   grind⟩
 simp_all):Z:=h
theorem Q2X(h:Z:=by
 refine⟨_,λi c=>?_,hk⟩;cases i with
 | zero=>simp
 | succ i=>simpa using hs i c):Z:=h
theorem Q31(h:Z:=by
 refine wp_region_any hm ?_;refine qpy (X:=X) (ρ:=ρ) hG h (λs ρ a w hk R'=>?_) ⟨R1.defers,R1.size,R1.slot,R1.heap.drew⟩;exact Q4u):Z:=h
theorem Q3a(h:Z:=by
 cases e:s.e.own with
 | true=>exact(hms (s.i,s.d) (List.mem_append_left _ (partM_mem.2 ⟨s,hs,e,rfl⟩))).trans (hin.at s hs)
 | false=>exact(hrd s.i (qk1 ⟨s,hs,e,rfl⟩)).trans (hin.at s hs)):Z:=h
theorem Q3J(h:Z:=by
 obtain⟨c,hc,rfl⟩:=qet hje;rw[xr,qf7 hc];exact hall _ (by simpa using (xg.1 (ho.at_ j c hc)).1)):Z:=h
theorem Q3S(h:Z:=by
 rcases xi.1 hs with rfl|hs
 .exact hp.1
 .exact hp.2.at s hs):Z:=h
theorem Q3W(h:Z:=by
 obtain⟨v,hk,hr⟩:=qx1 hG hq;obtain⟨x,hx,hd⟩:=hr X ρ' a' w' R';exact⟨R'.defers,x,hx,ρ',v,s,x,rfl,R'.heap,hd,hk⟩):Z:=h
theorem Q3Z(h:Z:=by
 cases drop with
 | false=>exact⟨λe=>(by cases e),h⟩
 | true=>obtain⟨hs,h⟩:=N.out h;exact⟨λ_=>hs,h⟩):Z:=h
theorem Q40(h:Z:=by
 obtain⟨i,o,s⟩:=a;cases s with
 | none=>rfl
 | some s=>have:=ha i (filB_iff.1 hs);simp[den1,den0,jfd,this]):Z:=h
theorem Q48(h:Z:=by
 simp only[xi,partM_mem (ss:=r)];constructor
 .simp_all
 .simp_all):Z:=h
theorem Q4l(h:Z:=by ·rw[getD_set_ne false (λe=>hji e.symm)];simp[hji]):Z:=h
theorem Q4q(h:Z:=by
 rintro e w' ⟨rfl,hb⟩;exact⟨v,rfl,ρ,AgreeOn.refl _ _,H.frame hb,λr _=>qa0 hv r⟩):Z:=h
theorem Q4u(h:Z:=by
 obtain⟨t2,h3⟩:=s;obtain⟨h2,hs2,hk⟩:=qev hk;exact hq _ ρ a w hk (R'.same hs2)):Z:=h
theorem Q4I(h:Z:=by
 simp only[yP,Array.getElem?_replicate];split<;>rfl):Z:=h
theorem Q4J(h:Z:=by
 rcases(E.mine _ _ _ (hI s hs) h).2.2 with h|h
 .exact .inl h
 grind):Z:=h
theorem Q4S(h:Z:=by
 rcases hex s hmem with e|⟨e,_⟩
 .simp_all
 .exact e):Z:=h
theorem Q4X(h:Z:=by exact⟨x,hx,hd.more (AgreeOn.refl _ _) λk hk=>(s.fil k).2 hk⟩):Z:=h
theorem Q8U(h:Z:=by simpa using hi):Z:=h
theorem Q8V(h:Z:=by simpa using hj):Z:=h
theorem Q91(h:Z:=by simpa using hl):Z:=h
theorem Q94(h:Z:=by cases h):Z:=h
theorem Q9a(h:Z:=by simp[Region.wanted,hg,hyl]):Z:=h
theorem Q9n(h:Z:=by obtain⟨c,hc⟩:=hf;exact⟨c,by simpa using hc⟩):Z:=h
theorem Q9F(h:Z:=by simpa using hk):Z:=h
theorem Q9Y(h:Z:=by simpa using h):Z:=h
theorem Q9Z(h:Z:=by rw[zr (nlr _)];simp):Z:=h
end
end Go.Proofs

namespace Go.Proofs.YtfkngpmgcimdbaaGreat.Sx
open Go Go.RowKit
structure Res where
 v:Value
 ms:Mz
 rh:List Nat
def St.after(st:St)(dst:Option Tmp)(v:Value)(ms:Mz):St:=
 ⟨match dst with
  | some d=>st.t.set d (some v)
  | none=>st.t,modH st.h ms⟩
def qdo(st:St)(dst:Option Tmp)(v:Value)(ms:Mz)(K:St->Prop):Prop:=
 match st with
 | ⟨t0,h0⟩=>match dst with
  | some d=>jh2 t0 d v λt=>jgp h0 ms λh=>K ⟨t,h⟩
  | none=>jgp h0 ms λh=>K ⟨t0,h⟩
variable{st:St}{dst:Option Tmp}{ms:Mz}
theorem qen{v:Value}{K:St->Prop}(h:qdo st dst v ms K):K (st.after dst v ms):=by
 obtain⟨t0,h0⟩:=st;cases dst with
 | some d=>exact qnb (K:=λh=>K ⟨_,h⟩) (qeg (K:=λt=>jgp h0 ms λh=>K ⟨t,h⟩) h)
 | none=>exact qnb (K:=λh=>K ⟨_,h⟩) h
def qcc:Op->Nat
 | .alloc _ | .box .. | .buildSlice .. | .makeSlice .. | .makeMap .. | .range ..=>1
 | .call _=>4
 | _=>0
abbrev jmf:=Nat->St->List (List Nat×List Nat)->(St->List (List Nat×List Nat)->Prop)->Prop
def jmz(P:Program)(G:Tys)(ops:List Oper)(o:Oper)(ih:jmf):jmf:=λsl st acc K=>
 match st with
 | ⟨t0,h0⟩=>match jfz h0 sl with
  | some none=>match o.guard with
   | none=>jgj P G o ⟨t0,h0⟩ sl λv ms rh=>qdo ⟨t0,h0⟩ o.dst v ms λst'=>jfk (sl+qcc o.op) λsl'=>ih sl' st' ((rh,ms.map (·.1))::acc) K
   | some (j,want)=>match jfz ops j with
    | some oj=>match oj.dst with
     | some d=>jit t0 d λg=>match g with
      | .bool b=>N (jis b
        (jh2 t0 d (.bool true) λt=>match want with
         | true=>jgj P G o ⟨t,h0⟩ sl λv ms rh=>qdo ⟨t,h0⟩ o.dst v ms λst'=>jfk (sl+qcc o.op) λsl'=>ih sl' st' ((rh,ms.map (·.1))::acc) K
         | false=>qdo ⟨t,h0⟩ o.dst undef [] λst'=>jfk (sl+qcc o.op) λsl'=>ih sl' st' (([],[])::acc) K)
        (jh2 t0 d (.bool false) λt=>match want with
         | false=>jgj P G o ⟨t,h0⟩ sl λv ms rh=>qdo ⟨t,h0⟩ o.dst v ms λst'=>jfk (sl+qcc o.op) λsl'=>ih sl' st' ((rh,ms.map (·.1))::acc) K
         | true=>qdo ⟨t,h0⟩ o.dst undef [] λst'=>jfk (sl+qcc o.op) λsl'=>ih sl' st' (([],[])::acc) K))
      | .tuple _=>qdo ⟨t0,h0⟩ o.dst undef [] λst'=>jfk (sl+qcc o.op) λsl'=>ih sl' st' (([],[])::acc) K
      | _=>False
     | none=>False
    | none=>False
  | _=>False
noncomputable def wpR(P:Program)(G:Tys)(ops:List Oper)(os:List Oper):jmf:=
 List.rec (motive:=λ_=>jmf) (λ_ st acc K=>K st acc) (λo _ ih=>jmz P G ops o ih) os
def App0N(cj:Chunk)(g m size bytes:Nat)(z:Value)(slot:Nat)(K:Value->Mz->Prop):Prop:=
 (∃v,Reads cj g true (m*size) v/\0<m/\m<=9223372036854775807/\m*bytes<=140737488355328/\∀cap,m<=cap->K (.slice (some ⟨slot,0,some 0⟩) m cap) [(slot,grown ⟨true,0,[]⟩ 0 m size v z cap)])\/(m=0/\K (.slice none 0 0) [])
def jmg(ci:Chunk)(k s l c:Nat)(cj:Chunk)(g m size bytes:Nat)(z:Value)(slot:Nat)(K:Value->Mz->Prop):Prop:=
 ∃v,Reads cj g true (m*size) v/\flatB v (m*size)=true/\l*size<=ci.n/\l+m<=9223372036854775807/\(l+m)*bytes<=140737488355328/\
  (l+m<=c->∃d,Writes ci (l*size) (m*size) v d/\K (.slice (some ⟨k,0,some s⟩) (l+m) c) [(k,d)])/\(c<l+m->∀cap,l+m<=cap->K (.slice (some ⟨slot,0,some 0⟩) (l+m) cap) [(slot,grown ci l m size v z cap)])
def jmh(A B:Prop):Prop:=A\/B
variable{A:Prop}
theorem N.alt{B:Prop}(h:A):N (jmh A B):=N.mk (.inl h)
theorem Bv{B:Prop}(h:B):N (jmh A B):=N.mk (.inr h)
def jhk(P:Program)(G:Tys)(o:Oper)(st:St)(slot:Nat)(K:Value->Mz->Prop):Prop:=
 match o.op with
 | .call ⟨.builtin .append,⟨[x,y]⟩,⟨[t,t']⟩⟩=>match Nat.beq t t' with
  | true=>jet x st λp=>jet y st λq=>match q with
   | .slice (some ⟨j,g,some _⟩) m _=>jeq G t λ_ d=>match d with
    | .slice e=>jeq G e λei _=>match ei.zero with
     | some z=>match qap z&&flatB z ei.size&&Nat.ble 1 ei.size with
      | true=>jgo st.h j λcj=>match p with
       | .slice none 0 0=>N (App0N cj g m ei.size ei.bytes z slot K)
       | .slice (some ⟨k,0,some s⟩) l c=>jgo st.h k λci=>N (jmg ci k s l c cj g m ei.size ei.bytes z slot K)
       | .iface _ _=>N (EffAll P o st K)
       | _=>False
      | false=>False
     | none=>False
    | _=>False
   | .slice (some ⟨_,_,none⟩) _ _=>N (EffAll P o st K)
   | .slice none _ _=>N (EffAll P o st K)
   | .iface _ _=>N (EffAll P o st K)
   | _=>False
  | false=>False
 | .call ⟨.value f,xs,_⟩=>jet f st λfv=>match fv with
  | .func (.func g) ⟨us⟩ ⟨cs⟩=>match us.all cap1&&cs.all cap1 with
   | true=>jgr xs.toList st λvs=>jgs (us++vs++cs) λl=>N (jhi true P g l st.h slot λv ms _=>K v ms)
   | false=>False
  | _=>False
 | .range _ _=>N (EffAll P o st K)
 | .next _ _=>N (EffAll P o st K)
 | .convert _ _ (.const (.string _))=>N (EffAll P o st K)
 | .buildSlice _ _ _=>N (jmh (jgj P G o st slot λv ms _=>K v ms) (EffAll P o st K))
 | _=>jgj P G o st slot λv ms _=>K v ms
variable{K:Value->Mz->Prop}{P:Program}
theorem qku{o:Oper}{f:Operand}{xs:Array Operand}{ts:Array TypeId}{g:FuncId}{us vs cs:List Value}{R:Value->Mz->Prop}(ho:o.op=.call ⟨.value f,xs,ts⟩)(hf:EvTo f st (.func (.func g) ⟨us⟩ ⟨cs⟩))(hu:us.all cap1=true)(hc:cs.all cap1=true)
  (hx:All2 (λx v=>EvTo x st v) xs.toList vs) (h:CallAll P g (us++vs++cs) st.h R) (hK:∀v ms,R v ms->K v ms):EffAll P o st K:=λX ρ a w Rl next Q hn=>by
 obtain⟨e1,d1,d2⟩:=(hf.den Rl).caps hu hc
 have d3:=qnh Rl xs.toList vs hx (λx hx u hu=>hu)
 have hk:=h X ρ w _ Rl.heap (qer (qer d1 d3) d2)
 have hrun:(execOp a.eval o).run P w=(callFunc g ⟨us.map (den0 ρ)++xs.toList.map a.eval++cs.map (den0 ρ)⟩).run P w:=Q3L
 unfold Oper.wp
 rw[hrun]
 rcases hk with ⟨x,w',hr,v,ms,ρ',hR,ha,hh,hd⟩|⟨hr,hcl⟩
 .rw[hr];exact hn v ms ρ' x w' (hK v ms hR) ⟨ha,hh,hd⟩
 .rw[hr];refine hcl.mono λe w' ⟨x,he,v,ms,ρ',hR,ha,hh,hd⟩=>?_
  subst he;exact hn v ms ρ' x w' (hK v ms hR) ⟨ha,hh,hd⟩
variable{rh:List Nat}
theorem EffAll.of{o:Oper}{v:Value}(h:OKs P o st v ms rh)(hK:K v ms):EffAll P o st K:=λX ρ a w R next Q hn=>
 h st (λ_ _ _ h=>h) (λ_ _=>rfl) (λ_ _=>rfl) X ρ a w R next Q λρ' x w' ha=>hn v ms ρ' x w' hK ha
variable{G:Tys}
theorem qxj{o:Oper}{slot:Nat}(hG:jey P G)(hs:st.h[slot]?=some none)(h:jhk P G o st slot K):EffAll P o st K:=by
 unfold jhk at h;split at h
 .rename_i x y t t' ho;cases hb:Nat.beq t t' with
  | false=>rw[hb] at h;exact h.elim
  | true=>
   rw[hb] at h;obtain rfl:=xN hb;obtain⟨p,hp,h⟩:=qas h;obtain⟨q,hq,h⟩:=qas h;split at h
   .obtain⟨i,d,h1,h2,h⟩:=qao hG h;split at h
    .obtain⟨ei,ed,h3,h4,h⟩:=qao hG h;split at h
     .rename_i z hz;cases hc:qap z&&flatB z ei.size&&Nat.ble 1 ei.size with
      | false=>rw[hc] at h;exact h.elim
      | true=>
       rw[hc] at h;simp only[xp,yE] at hc;obtain⟨cj,hj,h⟩:=qb5 h;split at h
       .rcases N.out h with ⟨v,hr,hm,h63,hby,hk⟩|⟨rfl,hk⟩
        .exact qhr ho hp hq h2 h3 hz hc.1.1 hc.1.2 hc.2 hj hr hm h63 hby hs hk
        .exact qgd ho hp hq h2 h3 hk
       .obtain⟨ci,hi,h⟩:=qb5 h;obtain⟨v,hr,hf,hln,h63,hby,ha,hk⟩:=N.out h;exact qmk ho hp hq h2 h3 hz hc.1.1 hc.1.2 hc.2 hi hln hj hr hf h63 hby hs ha hk
       .exact N.out h
       .exact h.elim
     .exact h.elim
    .exact h.elim
   .exact N.out h
   .exact N.out h
   .exact N.out h
   .exact h.elim
 .rename_i f xs ts ho;obtain⟨v,hv,h⟩:=qas h;split at h
  .rename_i g us cs;cases hb:us.all cap1&&cs.all cap1 with
   | true=>
    rw[hb] at h;simp only[xp] at hb;obtain⟨vs,hx,h⟩:=qep h;have h:=qes (K:=λl=>N (jhi true P g l st.h slot λv ms _=>K v ms)) h;rcases h.out with ⟨u,ms,rh,h1,h⟩|⟨_,R,h1,h⟩
    .exact EffAll.of (qw7 ho hv hb.1 hb.2 hx h1) h
    .exact qku ho hv hb.1 hb.2 hx h1 h
   | false=>rw[hb] at h;exact h.elim
  .exact h.elim
 .exact N.out h
 .exact N.out h
 .exact N.out h
 .rcases N.out h with h|h
  .obtain⟨v,ms,rh,hok,hk⟩:=qif hG hs h;exact EffAll.of hok hk
  .exact h
 .obtain⟨v,ms,rh,hok,hk⟩:=qif hG hs h;exact EffAll.of hok hk
abbrev jmi:=Nat->St->(St->Prop)->Prop
def jm0(P:Program)(G:Tys)(ops:List Oper)(o:Oper)(ih:jmi):jmi:=λsl st K=>
 match st with
 | ⟨t0,h0⟩=>match jfz h0 sl with
  | some none=>match o.guard with
   | none=>jhk P G o ⟨t0,h0⟩ sl λv ms=>qdo ⟨t0,h0⟩ o.dst v ms λst'=>jfk (sl+qcc o.op) λsl'=>ih sl' st' K
   | some (j,want)=>match jfz ops j with
    | some oj=>match oj.dst with
     | some d=>jit t0 d λg=>match g with
      | .bool b=>N (jis b
        (jh2 t0 d (.bool true) λt=>match want with
         | true=>jhk P G o ⟨t,h0⟩ sl λv ms=>qdo ⟨t,h0⟩ o.dst v ms λst'=>jfk (sl+qcc o.op) λsl'=>ih sl' st' K
         | false=>qdo ⟨t,h0⟩ o.dst undef [] λst'=>jfk (sl+qcc o.op) λsl'=>ih sl' st' K)
        (jh2 t0 d (.bool false) λt=>match want with
         | false=>jhk P G o ⟨t,h0⟩ sl λv ms=>qdo ⟨t,h0⟩ o.dst v ms λst'=>jfk (sl+qcc o.op) λsl'=>ih sl' st' K
         | true=>qdo ⟨t,h0⟩ o.dst undef [] λst'=>jfk (sl+qcc o.op) λsl'=>ih sl' st' K))
      | .tuple _=>qdo ⟨t0,h0⟩ o.dst undef [] λst'=>jfk (sl+qcc o.op) λsl'=>ih sl' st' K
      | _=>False
     | none=>False
    | none=>False
  | _=>False
noncomputable def wpQ(P:Program)(G:Tys)(ops:List Oper)(os:List Oper):jmi:=
 List.rec (motive:=λ_=>jmi) (λ_ st K=>K st) (λo _ ih=>jm0 P G ops o ih) os
def OpRes(P:Program)(ops:List Oper)(o:Oper)(st:St)(r:Res):Prop:=
 match o.guard with
 | none=>OKs P o st r.v r.ms r.rh
 | some (j,want)=>∃oj d g,ops[j]?=some oj/\oj.dst=some d/\st.t[d]?=some (some g)/\((∃b,g=.bool b/\(b=want->OKs P o st r.v r.ms r.rh)/\(b≠want->r=⟨undef,[],[]⟩))\/((∃us,g=.tuple us)/\r=⟨undef,[],[]⟩))
def Trace(P:Program)(ops:List Oper):List Oper->St->List Res->St->Prop
 | [],st,rs,st'=>rs=[]/\st'=st
 | o::os,st,rs,st'=>∃r rs',rs=r::rs'/\OpRes P ops o st r/\Trace P ops os (st.after o.dst r.v r.ms) rs' st'
def feet(rs:List Res):List (List Nat×List Nat):=rs.map λr=>(r.rh,r.ms.map (·.1))
theorem qg5{l:List (Option Value)}{d:Nat}{v:Value}(h:l[d]?=some (some v)):l.set d (some v)=l:=by
 apply ye
 grind
theorem qnj{P:Program}{G:Tys}{ops:List Oper}(hG:jey P G){K:St->List (List Nat×List Nat)->Prop}:∀{os:List Oper}{sl:Nat}{st:St}{acc:List (List Nat×List Nat)},wpR P G ops os sl st acc K->
  ∃rs st',Trace P ops os st rs st'/\K st' ((feet rs).reverse++acc)
 | [],sl,st,acc,h=>⟨[],st,⟨rfl,rfl⟩,h⟩
 | o::os,sl,⟨t0,h0⟩,acc,h=>by
  have h:jmz P G ops o (wpR P G ops os) sl ⟨t0,h0⟩ acc K:=h;unfold jmz at h;simp only at h;rw[qb0] at h;split at h
  .rename_i hs;have run:∀{st0:St},st0=⟨t0,h0⟩->(jgj P G o st0 sl λv ms rh=>qdo st0 o.dst v ms λst'=>jfk (sl+qcc o.op) λsl'=>wpR P G ops os sl' st' ((rh,ms.map (·.1))::acc) K)->
     ∃r rs st',OKs P o ⟨t0,h0⟩ r.v r.ms r.rh/\Trace P ops os (St.after ⟨t0,h0⟩ o.dst r.v r.ms) rs st'/\K st' ((feet (r::rs)).reverse++acc):=λ{st0} e h1=>by
    subst e
    obtain⟨v,ms,rh,hok,h2⟩:=qif hG hs h1
    obtain⟨rs,st',ht,hk⟩:=qnj hG (qce (K:=λsl'=>wpR P G ops os sl' _ _ K) (qen h2))
    exact⟨⟨v,ms,rh⟩,rs,st',hok,ht,by simpa[feet] using hk⟩
   have skip:∀{st0:St},st0=⟨t0,h0⟩->(qdo st0 o.dst undef [] λst'=>jfk (sl+qcc o.op) λsl'=>wpR P G ops os sl' st' (([],[])::acc) K)->
     ∃rs st',Trace P ops os (St.after ⟨t0,h0⟩ o.dst undef []) rs st'/\K st' ((feet (⟨undef,[],[]⟩::rs)).reverse++acc):=λ{st0} e h1=>by
    subst e
    obtain⟨rs,st',ht,hk⟩:=qnj hG (qce (K:=λsl'=>wpR P G ops os sl' _ _ K) (qen h1))
    exact⟨rs,st',ht,by simpa[feet] using hk⟩
   split at h
   .rename_i hg;obtain⟨r,rs,st',hok,ht,hk⟩:=run rfl h;exact⟨r::rs,st',⟨r,rs,rfl,by unfold OpRes;rw[hg];exact hok,ht⟩,hk⟩
   .rename_i j want hg;rw[qb0] at h;split at h
    .rename_i oj hj;split at h
     .rename_i d hd;obtain⟨g,hgv,h⟩:=qef h;split at h
      .rename_i b;have h:=h.out;cases b with
       | true=>
        have h:=qeg (K:=λt=>_) (h.1 rfl);rw[qg5 hgv] at h;cases want with
        | true=>
         obtain⟨r,rs,st',hok,ht,hk⟩:=run rfl h;exact⟨r::rs,st',⟨r,rs,rfl,by unfold OpRes;rw[hg];exact⟨oj,d,_,hj,hd,hgv,.inl ⟨true,rfl,λ_=>hok,λe=>absurd rfl e⟩⟩,ht⟩,hk⟩
        | false=>
         obtain⟨rs,st',ht,hk⟩:=skip rfl h;exact⟨_::rs,st',⟨⟨undef,[],[]⟩,rs,rfl,by unfold OpRes;rw[hg];exact⟨oj,d,_,hj,hd,hgv,.inl ⟨true,rfl,λe=>absurd e Q8P,λ_=>rfl⟩⟩,ht⟩,hk⟩
       | false=>
        have h:=qeg (K:=λt=>_) (h.2 rfl);rw[qg5 hgv] at h;cases want with
        | false=>
         obtain⟨r,rs,st',hok,ht,hk⟩:=run rfl h;exact⟨r::rs,st',⟨r,rs,rfl,by unfold OpRes;rw[hg];exact⟨oj,d,_,hj,hd,hgv,.inl ⟨false,rfl,λ_=>hok,λe=>absurd rfl e⟩⟩,ht⟩,hk⟩
        | true=>
         obtain⟨rs,st',ht,hk⟩:=skip rfl h;exact⟨_::rs,st',⟨⟨undef,[],[]⟩,rs,rfl,by unfold OpRes;rw[hg];exact⟨oj,d,_,hj,hd,hgv,.inl ⟨false,rfl,λe=>absurd e Q8P,λ_=>rfl⟩⟩,ht⟩,hk⟩
      .obtain⟨rs,st',ht,hk⟩:=skip rfl h;exact⟨_::rs,st',⟨⟨undef,[],[]⟩,rs,rfl,by unfold OpRes;rw[hg];exact⟨oj,d,_,hj,hd,hgv,.inr ⟨⟨_,rfl⟩,rfl⟩⟩,ht⟩,hk⟩
      .exact h.elim
     .exact h.elim
    .exact h.elim
  .exact h.elim
variable{X:Ctx}{ρ:Rz}{a:Act}{w:World}
theorem qfl{ρ':Rz}{w':World}{v x:Value}(R:Rel X ρ st a w)(h:After X ρ st v ms ρ' x w'):Rel X ρ' (st.after dst v ms) (a.put dst x) w':=by
 obtain⟨ha,hh,hd⟩:=h;have more:∀(i:Nat)(u:Value),st.t[i]?=some (some u)->∃y,a.tmps[i]?=some y/\Den (Fil (modH st.h ms)) ρ' u y:=λi u hi=>by
  obtain⟨y,hy,hyd⟩:=R.slot i u hi;exact⟨y,hy,hyd.more ha λ_ hF=>hF.mod⟩
 cases dst with
 | none=>exact⟨R.defers,R.size,more,hh⟩
 | some d=>
  refine⟨R.defers,by simp[Act.put,St.after,R.size],λi u hi=>?_,hh⟩;simp only[St.after,List.getElem?_set] at hi;simp only[Act.put,zu];by_cases e:d=i
  .subst e;rw[if_pos rfl] at hi;by_cases hl:d<st.t.length
   .rw[if_pos hl] at hi;simp only[Option.some.injEq] at hi;subst hi;exact⟨x,by rw[if_pos rfl,if_pos (by rw[R.size];exact hl)],hd⟩
   simp_all
  .rw[if_neg e] at hi;obtain⟨y,hy,hyd⟩:=more i u hi;exact⟨y,by rw[if_neg e];exact hy,hyd⟩
theorem OKs.here{o:Oper}{v:Value}(h:OKs P o st v ms rh):jh3 P o st v ms:=h st (λ_ _ _ h=>h) (λ_ _=>rfl) (λ_ _=>rfl)
variable{Q:Exit->Act->World->Prop}{k:Nat}
theorem q49{ops:Array Oper}{o:Oper}{r:Res}{next:Act->World->Prop}(hk:ops[k]?=some o)(h:OpRes P ops.toList o st r)(R:Rel X ρ st a w)
  (hn:∀ρ' a' w',Rel X ρ' (st.after o.dst r.v r.ms) a' w'->next a' w'):wpOp P ops Q k next a w:=by
 have go:OKs P o st r.v r.ms r.rh->o.wp P a w next Q:=λhok=>hok.here X ρ a w R next Q λρ' x w' ha=>hn ρ' _ w' (qfl R ha)
 have undef_den:∀F ρ,Den F ρ undef undef:=λF ρ r _=>by simp[undef,den]
 unfold wpOp
 rw[hk]
 simp only
 unfold OpRes at h
 cases hg:o.guard with
 | none=>
  rw[hg] at h;have hw:Region.wanted o (yielded ops a.tmps)=true:=by simp[Region.wanted,hg]
  rw[if_pos hw];exact .inl (go h)
 | some jw=>
  obtain⟨j,want⟩:=jw;rw[hg] at h;obtain⟨oj,d,g,hj,hd,hb,h12⟩:=h;obtain⟨y,hy,hyd⟩:=R.slot d _ hb;have hj':ops[j]?=some oj:=by simpa using hj
  have skip:¬ Region.wanted o (yielded ops a.tmps)=true->r=⟨undef,[],[]⟩->(if Region.wanted o (yielded ops a.tmps)=true then o.wp P a w next Q\/(o.asks P a w/\LetsOut Q) else next (a.put o.dst undef) w):=λhw hr=>by
   rw[if_neg hw];rw[hr] at hn;exact hn ρ _ w (qfl R ⟨AgreeOn.refl _ _,R.heap,undef_den _ _⟩)
  rcases h12 with ⟨b,rfl,h1,h2⟩|⟨⟨us,rfl⟩,hr⟩
  .have hyb:y=.bool b:=hyd.self.symm;have hyl:yielded ops a.tmps j=some b:=by simp[yielded,hj',hd,hy,hyb]
   by_cases e:b=want
   .have hw:Region.wanted o (yielded ops a.tmps)=true:=by simp[Region.wanted,hg,hyl,e]
    rw[if_pos hw];exact .inl (go (h1 e))
   .exact skip (by simp[Region.wanted,hg,hyl,e]) (h2 e)
  .have hyb:y=.tuple (us.map (den2 ρ)):=hyd.self.symm;have hyl:yielded ops a.tmps j=none:=by simp[yielded,hj',hd,hy,hyb]
   exact skip Q9a hr
theorem qxk{P:Program}{G:Tys}{ops:Array Oper}{Q:Exit->Act->World->Prop}{X:Ctx}(hG:jey P G){K:St->Prop}(hq:∀s ρ a w,K s->Rel X ρ s a w->Q .normal a w):∀(os:List Oper)(sl k:Nat)(st:St),wpQ P G ops.toList os sl st K->(∀i,i<os.length->ops[k+i]?=os[i]?)->
  ∀ρ a w,Rel X ρ st a w->wpOps P ops Q (List.range' k os.length) a w
 | [],sl,k,st,h,_,ρ,a,w,R=>hq st ρ a w h R
 | o::os,sl,k,⟨t0,h0⟩,h,hi,ρ,a,w,R=>by
  have h:jm0 P G ops.toList o (wpQ P G ops.toList os) sl ⟨t0,h0⟩ K:=h;rw[yZ,List.range'_succ,wpOps_cons];have hk:ops[k]?=some o:=by simpa using hi 0 Q8P
  have rest:∀(st':St),(jfk (sl+qcc o.op) λsl'=>wpQ P G ops.toList os sl' st' K)->∀ρ a w,Rel X ρ st' a w->wpOps P ops Q (List.range' (k+1) os.length) a w:=λst' h' ρ a w R'=>by
   refine qxk hG hq os _ (k+1) st' (qce (K:=λsl'=>wpQ P G ops.toList os sl' st' K) h') (λi hil=>?_) ρ a w R';have:=hi (i+1) (by simpa using hil)
   grind
  unfold jm0 at h;simp only at h;rw[qb0] at h;split at h
  .rename_i hs;have go:(jhk P G o ⟨t0,h0⟩ sl λv ms=>qdo ⟨t0,h0⟩ o.dst v ms λst'=>jfk (sl+qcc o.op) λsl'=>wpQ P G ops.toList os sl' st' K)->Region.wanted o (yielded ops a.tmps)=true->
     wpOp P ops Q k (λa w=>wpOps P ops Q (List.range' (k+1) os.length) a w) a w:=λh1 hw=>by
    unfold wpOp
    rw[hk]
    simp only
    rw[if_pos hw]
    refine .inl (qxj hG hs h1 X ρ a w R _ Q λv ms ρ' x w' hk' ha=>?_)
    exact rest _ (qen hk') ρ' _ w' (qfl R ha)
   have undef_den:∀F ρ,Den F ρ undef undef:=λF ρ r _=>by simp[undef,den]
   have skip:(qdo ⟨t0,h0⟩ o.dst undef [] λst'=>jfk (sl+qcc o.op) λsl'=>wpQ P G ops.toList os sl' st' K)->¬ Region.wanted o (yielded ops a.tmps)=true->
     wpOp P ops Q k (λa w=>wpOps P ops Q (List.range' (k+1) os.length) a w) a w:=λh1 hw=>by
    unfold wpOp
    rw[hk]
    simp only
    rw[if_neg hw]
    exact rest _ (qen h1) ρ _ w (qfl R ⟨AgreeOn.refl _ _,R.heap,undef_den _ _⟩)
   split at h
   .rename_i hg;exact go h (by simp[Region.wanted,hg])
   .rename_i j want hg;rw[qb0] at h;split at h
    .rename_i oj hj;split at h
     .rename_i d hd;obtain⟨g,hgv,h⟩:=qef h;obtain⟨y,hy,hyd⟩:=R.slot d _ hgv;have hj':ops[j]?=some oj:=by simpa using hj
      split at h
      .rename_i b;have hyb:y=.bool b:=hyd.self.symm;have hyl:yielded ops a.tmps j=some b:=by simp[yielded,hj',hd,hy,hyb]
       have h:=h.out;cases b with
       | true=>
        have h:=qeg (K:=λt=>_) (h.1 rfl);rw[qg5 hgv] at h;cases want with
        | true=>exact go h Q9a
        | false=>exact skip h Q9a
       | false=>
        have h:=qeg (K:=λt=>_) (h.2 rfl);rw[qg5 hgv] at h;cases want with
        | false=>exact go h Q9a
        | true=>exact skip h Q9a
      .rename_i us;have hyb:y=.tuple (us.map (den2 ρ)):=hyd.self.symm;have hyl:yielded ops a.tmps j=none:=by simp[yielded,hj',hd,hy,hyb]
       exact skip h Q9a
      simp_all
     simp_all
    simp_all
  simp_all
structure Eff where
 dst:Option Tmp
 v:Value
 ms:Mz
def cur(D:Nat->Bool):Nat->List Eff->St->St
 | _,[],st=>st
 | k,e::es,st=>cur D (k+1) es (match D k with
  | true=>st.after e.dst e.v e.ms
  | false=>st)
def jf5:List Oper->List Res->List Eff
 | o::os,r::rs=>⟨o.dst,r.v,r.ms⟩::jf5 os rs
 | _,_=>[]
structure jjm{α:Type}(f:St->α)(W:Eff->Prop):Prop where
 keep:∀(st:St)(e:Eff),¬ W e->f (st.after e.dst e.v e.ms)=f st
 same:∀(st st':St)(e:Eff),f st=f st'->f (st.after e.dst e.v e.ms)=f (st'.after e.dst e.v e.ms)
theorem qig(i:Nat):jjm (λst:St=>st.t[i]?) (λe=>e.dst=some i):=by
 refine⟨λst e h=>?_,λst st' e h=>?_⟩
 .obtain⟨d,v,ms⟩:=e;cases d with
  | none=>rfl
  | some d=>
   have:d≠i:=λe=>h (by rw[e])
   show(st.t.set d (some v))[i]?=_;simp_all
 .obtain⟨d,v,ms⟩:=e;cases d with
  | none=>exact h
  | some d=>
   show(st.t.set d (some v))[i]?=(st'.t.set d (some v))[i]?
   grind
theorem qc9{i:Nat}:∀{ms:Mz}{h:Hp},i∉ms.map (·.1)->(modH h ms)[i]?=h[i]?
 | [],_,_=>rfl
 | (j,c)::ms,h,hn=>by
  simp only[xq,xi,not_or] at hn;simp only[modH];rw[qc9 hn.2,xI (λe=>hn.1 e.symm)]
theorem qih{i:Nat}:∀{ms:Mz}{h h':Hp},h[i]?=h'[i]?->(modH h ms)[i]?=(modH h' ms)[i]?
 | [],_,_,e=>e
 | (j,c)::ms,h,h',e=>by
  simp only[modH];refine qih ?_
  grind
theorem qhs(i:Nat):jjm (λst:St=>st.h[i]?) (λe=>i∈e.ms.map (·.1)):=
 ⟨λst e h=>qc9 h,λst st' e h=>qih h⟩
theorem qcf{α:Type}{f:St->α}{W:Eff->Prop}(hp:jjm f W){D D':Nat->Bool}:∀(es:List Eff)(k:Nat)(st st':St),(∀i e,es[i]?=some e->W e->D (k+i)=D' (k+i))->f st=f st'->f (cur D k es st)=f (cur D' k es st')
 | [],_,_,_,_,h=>h
 | e::es,k,st,st',hd,h=>by
  simp only[cur];refine qcf hp es (k+1) _ _ (λi e' he hw=>?_) ?_
  .have:=hd (i+1) e' (by simpa using he) hw
   grind
  .by_cases hw:W e
   .have h0:=hd 0 e rfl hw;rw[xZ] at h0;rw[h0];cases D' k with
    | true=>exact hp.same _ _ e h
    | false=>exact h
   .have h1:∀b:Bool,∀s:St,f (match b with|true=>s.after e.dst e.v e.ms|false=>s)=f s:=λb s=>by
     cases b with
     | true=>exact hp.keep _ e hw
     | false=>rfl
    grind
theorem qe4{D:Nat->Bool}:∀(es:List Eff)(k:Nat)(st:St),(∀i,i<es.length->D (k+i)=false)->cur D k es st=st
 | [],_,_,_=>rfl
 | e::es,k,st,h=>by
  simp only[cur];have:=h 0 Q8P;rw[xZ] at this;rw[this];exact qe4 es (k+1) st λi hi=>by
   have:=h (i+1) Q8U
   grind
theorem qkv{α:Type}{f:St->α}{W:Eff->Prop}(hp:jjm f W){D:Nat->Bool}{k0:Nat}{e0:Eff}:∀(es:List Eff)(k:Nat)(st:St),k<=k0->es[k0-k]?=some e0->D k0=false->(W e0->∀i e,es[i]?=some e->k0<k+i->W e->D (k+i)=false)->
  f (cur (λj=>decide (j=k0)||D j) k es st)=f ((cur D k es st).after e0.dst e0.v e0.ms)
 | [],k,st,hk,he,hd,hw=>by simp at he
 | e::es,k,st,hk,he,hd,hw=>by
  simp only[cur];by_cases hkk:k=k0
  .subst hkk;rw[Nat.sub_self] at he;simp only[yQ,Option.some.injEq] at he;subst he;simp only[decide_true,Bool.true_or,hd];have h1:f (cur (λj=>decide (j=k)||D j) (k+1) es (st.after e.dst e.v e.ms))=f (cur D (k+1) es (st.after e.dst e.v e.ms)):=
    qcf hp es (k+1) _ _ (λi e' he' hw'=>by
     grind) rfl
   rw[h1];by_cases hwe:W e
   .have hno:∀i e',es[i]?=some e'->W e'->D (k+1+i)=false:=λi e' he' hw'=>by
     have:=hw hwe (i+1) e' (by simpa using he') Q8E hw'
     grind
    have h2:f (cur D (k+1) es (st.after e.dst e.v e.ms))=f (st.after e.dst e.v e.ms):=
     (qcf hp (D':=λ_=>false) es (k+1) _ _ (λi e' he' hw'=>hno i e' he' hw') rfl).trans (by rw[qe4 es (k+1) _ (λ_ _=>rfl)])
    have h3:f (cur D (k+1) es st)=f st:=
     (qcf hp (D':=λ_=>false) es (k+1) _ _ (λi e' he' hw'=>hno i e' he' hw') rfl).trans (by rw[qe4 es (k+1) _ (λ_ _=>rfl)])
    rw[h2];exact hp.same _ _ e h3.symm
   .rw[hp.keep _ e hwe];exact qcf hp es (k+1) _ _ (λ_ _ _ _=>rfl) (hp.keep _ e hwe)
  .have:decide (k=k0)=false:=by simpa using hkk
   simp only[this,Bool.false_or];exact qkv hp es (k+1) _ Q8E (by
    rw[show k0-k=(k0-(k+1))+1 by omega] at he;simpa using he) hd (λhwe i e' he' hlt hw'=>by
     have:=hw hwe (i+1) e' (by simpa using he') Q8E hw'
     grind)
theorem St.ext'{a b:St}(h1:∀i:Nat,a.t[i]?=b.t[i]?)(h2:∀i:Nat,a.h[i]?=b.h[i]?):a=b:=by
 obtain⟨t,h⟩:=a;obtain⟨t',h'⟩:=b;have e1:t=t':=ye h1;have e2:h=h':=ye h2;rw[e1,e2]
theorem qpp{P:Program}{ops:List Oper}:∀{os:List Oper}{st st':St}{rs:List Res},Trace P ops os st rs st'->rs.length=os.length
 | [],_,_,_,h=>by rw[h.1];rfl
 | o::os,_,_,_,h=>by obtain⟨r,rs',rfl,_,h⟩:=h;simp[qpp h]
theorem qnk:∀{os:List Oper}{rs:List Res}{k:Nat}{o:Oper}{r:Res},os[k]?=some o->rs[k]?=some r->(jf5 os rs)[k]?=some ⟨o.dst,r.v,r.ms⟩
 | o'::os,r'::rs,0,o,r,h1,h2=>by simp at h1 h2;subst h1 h2;rfl
 | o'::os,r'::rs,k+1,o,r,h1,h2=>by simpa[jf5] using qnk (os:=os) (rs:=rs) (k:=k) (by simpa using h1) (by simpa using h2)
 | [],_,_,_,_,h1,_=>by simp at h1
 | _::_,[],_,_,_,_,h2=>by simp at h2
theorem qtd:∀{os:List Oper}{rs:List Res},rs.length=os.length->(jf5 os rs).length=os.length
 | [],[],_=>rfl
 | o::os,r::rs,h=>by simp[jf5,qtd (os:=os) (rs:=rs) Q9Y]
 | [],_::_,h=>by simp at h
 | _::_,[],h=>by simp at h
theorem qte{P:Program}{ops:List Oper}:∀{os:List Oper}{st st':St}{rs:List Res}{k0:Nat},Trace P ops os st rs st'->∀k o,os[k]?=some o->∃r,rs[k]?=some r/\OpRes P ops o (cur (λj=>decide (j<k0+k)) k0 (jf5 os rs) st) r
 | [],_,_,_,_,_,k,o,h=>by simp at h
 | o'::os,st,st',rs,k0,h,k,o,ho=>by
  obtain⟨r,rs',rfl,h1,h2⟩:=h;cases k with
  | zero=>
   grind[qe4]
  | succ k=>
   obtain⟨r',hr,hres⟩:=qte (k0:=k0+1) h2 k o (by simpa using ho)
   grind[jf5,cur]
theorem qpq{P:Program}{ops:List Oper}:∀{os:List Oper}{st st':St}{rs:List Res}{k0:Nat},Trace P ops os st rs st'->cur (λ_=>true) k0 (jf5 os rs) st=st'
 | [],_,_,_,_,h=>by obtain⟨rfl,rfl⟩:=h;rfl
 | o'::os,st,st',rs,k0,h=>by
  obtain⟨r,rs',rfl,h1,h2⟩:=h;simp only[jf5,cur];exact qpq h2
def qpr(x:Operand):List Nat:=
 match x with
 | .tmp t=>[t]
 | _=>[]
def qe5(ops:List Oper)(o:Oper):List Nat:=
 o.op.operands.toList.flatMap qpr++(match o.guard with
  | some (j,_)=>match jfz ops j with
   | some oj=>oj.dst.toList
   | none=>[]
  | none=>[])
def jjx(a b:List Nat):Bool:=a.all λx=>b.all λy=>!(Nat.beq x y)
structure jkt where
 rt:List Nat
 wt:List Nat
 rh:List Nat
 wh:List Nat
 m:Nat
def jf1(f g:jkt):Bool:=jjx f.wt g.rt&&jjx f.wt g.wt&&jjx g.wt f.rt&&jjx f.wh g.rh&&jjx f.wh g.wh&&jjx g.wh f.rh
def qht(o:Oper)(acc:List Nat):Nat:=o.after.toList.foldl (λs e=>match Region.binds .any e with
 | true=>s ||| 2^e.on ||| (match jfz acc e.on with
  | some m=>m
  | none=>0)
 | false=>s) 0
def qps(ops:List Oper)(o:Oper)(f:List Nat×List Nat)(acc:List Nat):jkt:=⟨qe5 ops o,o.dst.toList,f.1,f.2,qht o acc⟩
def jiw(ops:List Oper):List Oper->List (List Nat×List Nat)->Nat->List Nat->List (Nat×jkt)->Bool
 | o::os,f::fs,j,acc,prev=>
  let g:=qps ops o f acc
  prev.all (λp=>Nat.testBit g.m p.1||jf1 p.2 g)&&jiw ops os fs (j+1) (acc++[g.m]) (prev++[(j,g)])
 | [],[],_,_,_=>true
 | _,_,_,_,_=>false
def qpt(ops:List Oper)(fs:List (List Nat×List Nat)):Bool:=jiw ops ops fs 0 [] []
def masks:List Oper->List Nat->List Nat
 | [],acc=>acc
 | o::os,acc=>masks os (acc++[qht o acc])
theorem qd3:∀(os:List Oper)(acc:List Nat)(i:Nat),i<acc.length->(masks os acc)[i]?=acc[i]?
 | [],_,_,_=>rfl
 | o::os,acc,i,h=>by rw[masks,qd3 os _ i Q9h,zy h]
theorem qnl{ops:List Oper}:∀{os:List Oper}{fs:List (List Nat×List Nat)}{j:Nat}{acc:List Nat}{prev:List (Nat×jkt)},jiw ops os fs j acc prev=true->acc.length=j->
  ∀k o f,os[k]?=some o->fs[k]?=some f->∃m,(masks os acc)[j+k]?=some m/\m=qht o ((masks os acc).take (j+k))/\
   (∀p∈prev,Nat.testBit m p.1=true\/jf1 p.2 ⟨qe5 ops o,o.dst.toList,f.1,f.2,m⟩=true)/\
   ∀i o' f',i<k->os[i]?=some o'->fs[i]?=some f'->∃m',Nat.testBit m (j+i)=true\/jf1 ⟨qe5 ops o',o'.dst.toList,f'.1,f'.2,m'⟩ ⟨qe5 ops o,o.dst.toList,f.1,f.2,m⟩=true
 | [],fs,j,acc,prev,h,hl,k,o,f,ho,hf=>by simp at ho
 | o0::os,[],j,acc,prev,h,hl,k,o,f,ho,hf=>by simp at hf
 | o0::os,f0::fs,j,acc,prev,h,hl,k,o,f,ho,hf=>by
  simp only[jiw,xp] at h;obtain⟨h1,h2⟩:=h;have hm0:(masks (o0::os) acc)[j]?=some (qht o0 acc):=by
   grind[masks,qd3]
  have htake:(masks (o0::os) acc).take j=acc:=by
   apply ye
   grind[qd3]
  cases k with
  | zero=>
   simp only[yQ,Option.some.injEq] at ho hf;subst ho hf;refine⟨qht o0 acc,by simpa using hm0,by rw[xZ,htake],λp hp=>?_,λi _ _ hi=>absurd hi Q8E⟩
   grind[qps]
  | succ k=>
   obtain⟨m,g1,g2,g3,g4⟩:=qnl h2 (by simp[hl]) k o f (by simpa using ho) (by simpa using hf);have e:j+1+k=j+(k+1):=by omega
   have em:masks os (acc++[(qps ops o0 f0 acc).m])=masks (o0::os) acc:=rfl;rw[em,e] at g1 g2;refine⟨m,g1,g2,λp hp=>g3 p (by simp[hp]),λi o' f' hi ho' hf'=>?_⟩;cases i with
   | zero=>
    simp only[yQ,Option.some.injEq] at ho' hf';subst ho' hf';have:=g3 (j,qps ops o0 f0 acc) Q8P;exact⟨qht o0 acc,by simpa[qps] using this⟩
   | succ i=>
    obtain⟨m',h'⟩:=g4 i o' f' Q8E (by simpa using ho') (by simpa using hf');rw[show j+1+i=j+(i+1) by omega] at h';exact⟨m',h'⟩
theorem qpu(acc:List Nat)(i:Nat):∀(es:List Edge)(s:Nat),(es.foldl (λs e=>match Region.binds .any e with
  | true=>s ||| 2^e.on ||| (match jfz acc e.on with
   | some m=>m
   | none=>0)
  | false=>s) s).testBit i=true->s.testBit i=true\/∃e∈es,Region.binds .any e=true/\(e.on=i\/∃m,acc[e.on]?=some m/\m.testBit i=true)
 | [],s,h=>.inl h
 | e::es,s,h=>by
  rw[List.foldl_cons] at h;rcases qpu acc i es _ h with h|⟨e',he,hb,h⟩
  .grind[qb0]
  grind
variable{i:Nat}
theorem qtf{o:Oper}{acc:List Nat}(h:(qht o acc).testBit i=true):∃e∈o.after.toList,Region.binds .any e=true/\(e.on=i\/∃m,acc[e.on]?=some m/\m.testBit i=true):=by
 rcases qpu acc i o.after.toList 0 h with h|h
 .simp at h
 .exact h
theorem qcb{a b:List Nat}(h:jjx a b=true){x:Nat}(ha:x∈a):x∉b:=λhb=>by
 have:=yf.1 (yf.1 h x ha) x hb;simp at this
theorem qtg{x:Operand}{st₂:St}{u:Value}(h:∀t∈qpr x,st₂.t[t]?=st.t[t]?)(hx:EvTo x st u):EvTo x st₂ u:=by
 cases x with
 | tmp t=>exact(h t (by simp[qpr])).trans hx
 | _=>exact hx
theorem OKs.move{o:Oper}{st₂:St}{v:Value}(h:OKs P o st v ms rh)(ht:∀x∈o.op.operands.toList,∀t∈qpr x,st₂.t[t]?=st.t[t]?)(hr:∀i∈rh,st₂.h[i]?=st.h[i]?)(hm:∀i∈ms.map (·.1),st₂.h[i]?=st.h[i]?):OKs P o st₂ v ms rh:=
 λst₃ h1 h2 h3=>h st₃ (λx hx u hu=>h1 x hx u (qtg (ht x hx) hu)) (λi hi=>(h2 i hi).trans (hr i hi)) (λm hm'=>(h3 m hm').trans (hm m.1 (xE.2 ⟨m,hm',rfl⟩)))
variable{ops:List Oper}
theorem OpRes.move{o:Oper}{st₂:St}{r:Res}(h:OpRes P ops o st r)(ht:∀t∈qe5 ops o,st₂.t[t]?=st.t[t]?)(hr:∀i∈r.rh,st₂.h[i]?=st.h[i]?)(hm:∀i∈r.ms.map (·.1),st₂.h[i]?=st.h[i]?):OpRes P ops o st₂ r:=by
 have hops:∀x∈o.op.operands.toList,∀t∈qpr x,st₂.t[t]?=st.t[t]?:=λx hx t htx=>ht t (by
  grind[qe5])
 unfold OpRes at *;cases hg:o.guard with
 | none=>rw[hg] at h;exact h.move hops hr hm
 | some jw=>
  obtain⟨j,want⟩:=jw;rw[hg] at h;obtain⟨oj,d,g,hj,hd,hb,h12⟩:=h;refine⟨oj,d,g,hj,hd,?_,h12.imp (fun⟨b,e,h1,h2⟩=>⟨b,e,λe=>(h1 e).move hops hr hm,h2⟩) id⟩
  grind[qe5,qb0]
def qc5:List Oper->Nat->Bool
 | [],_=>true
 | o::os,j=>o.after.toList.all (λe=>!(Region.binds .any e)||Nat.ble (e.on+1) j)&&qc5 os (j+1)
theorem qii:∀{os:List Oper}{j:Nat},qc5 os j=true->∀k o,os[k]?=some o->∀e∈o.after.toList,Region.binds .any e=true->e.on<j+k
 | [],_,_,k,o,h,_,_,_=>by simp at h
 | o'::os,j,h,k,o,ho,e,he,hb=>by
  simp only[qc5,xp] at h;cases k with
  | zero=>
   simp only[yQ,Option.some.injEq] at ho;subst ho;have:=yf.1 h.1 e he;rw[hb] at this;have:=x7 (by simpa using this);omega
  | succ k=>
   have:=qii h.2 k o (by simpa using ho) e he hb;omega
section
variable{P:Program}{ops:Array Oper}{Q:Exit->Act->World->Prop}{X:Ctx}{st st':St}{rs:List Res}
theorem qkw{D:Nat->Bool}(hcl:∀(j:Nat)(o:Oper),ops.toList[j]?=some o->D j=true->∀e∈o.after.toList,Region.binds .any e=true->D e.on=true)(fs:List (List Nat×List Nat))(hlen:fs.length=ops.toList.length)(hc:qpt ops.toList fs=true)(he:qc5 ops.toList 0=true):
  ∀(j:Nat)(o:Oper)(m i:Nat),ops.toList[j]?=some o->(masks ops.toList [])[j]?=some m->m.testBit i=true->(∀e∈o.after.toList,Region.binds .any e=true->D e.on=true)->D i=true:=by
 intro j
 induction j using Nat.strongRecOn with
 | _ j ih=>
  intro o m i ho hm hb hedges;have hjl:j<fs.length:=by rw[hlen];exact(xg.1 ho).1
  obtain⟨m',g1,g2,_,_⟩:=qnl hc rfl j o fs[j] ho (xt hjl);rw[xr] at g1 g2;rw[hm] at g1;simp only[Option.some.injEq] at g1;subst g1;rw[g2] at hb;obtain⟨e,hee,hbe,h⟩:=qtf hb
  grind
theorem q6r(ht:Trace P ops.toList ops.toList st rs st')(hc:qpt ops.toList (feet rs)=true)(he:qc5 ops.toList 0=true)(hq:∀ρ a w,Rel X ρ st' a w->Q .normal a w):
  ∀(fuel:Nat)(S:List Nat)(listed:Array Bool),S.length=fuel->S.Nodup->listed.size=ops.size->(∀i,i<ops.size->(listed.getD i false=true↔i∉S))->(∀i∈S,i<ops.size)->
   (∀(j:Nat)(o:Oper),ops.toList[j]?=some o->listed.getD j false=true->∀e∈o.after.toList,Region.binds .any e=true->listed.getD e.on false=true)->
   ∀ρ a w,Rel X ρ (cur (λj=>listed.getD j false) 0 (jf5 ops.toList rs) st) a w->wpAny P .any ops Q fuel listed a w:=by
 have hlen:=qpp ht
 have hfl:(feet rs).length=ops.toList.length:=by simp[feet,hlen]
 have hel:=qtd hlen
 have fin:∀(listed:Array Bool),(∀i,i<ops.size->listed.getD i false=true)->∀ρ a w,Rel X ρ (cur (λj=>listed.getD j false) 0 (jf5 ops.toList rs) st) a w->Q .normal a w:=by
  intro listed hall ρ a w R;refine hq ρ a w ?_;have hD:∀{α:Type}{f:St->α}{W:Eff->Prop},jjm f W->f (cur (λj=>listed.getD j false) 0 (jf5 ops.toList rs) st)=f st':=λhp=>by
   rw[qcf hp (D':=λ_=>true) (jf5 ops.toList rs) 0 st st (λi e hi _=>by
    grind) rfl,qpq ht]
  rw[<-St.ext' (λi=>hD (qig i)) (λi=>hD (qhs i))];exact R
 have noready:∀(listed:Array Bool),listed.size=ops.size->Region.ready .any ops listed=[]->∀i,i<ops.size->listed.getD i false=true:=by
  intro listed hsz hr i
  induction i using Nat.strongRecOn with
  | _ i ih=>
   intro hi;cases hl:listed.getD i false with
   | true=>rfl
   | false=>
    exfalso;have hi':i<ops.toList.length:=by simpa using hi
    exact Q2z
 intro fuel
 induction fuel with
 | zero=>
  intro S listed hS hnd hsz hdS hlt hcl ρ a w R;have hS0:S=[]:=y7.1 hS;subst hS0;have hall:∀i,i<ops.size->listed.getD i false=true:=λi hi=>(hdS i hi).2 Q8P
  refine⟨?_,fin listed hall ρ a w R⟩;apply List.eq_nil_iff_forall_not_mem.2;intro j hj;obtain⟨h0,o,ho,_⟩:=mem_ready.1 hj
  grind
 | succ fuel ih=>
  intro S listed hS hnd hsz hdS hlt hcl ρ a w R;refine⟨λhr=>fin listed (noready listed hsz hr) ρ a w R,λi hi=>?_⟩;obtain⟨h0,o,ho,hready⟩:=mem_ready.1 hi;have hil:i<ops.size:=(xY.1 ho).1;have his:i<listed.size:=by omega
  have hol:ops.toList[i]?=some o:=by simpa using ho
  have hDi:listed.getD i false=false:=by
   grind
  have hiS:i∈S:=by
   grind
  obtain⟨r,hr,hres⟩:=qte (k0:=0) ht i o hol;rw[xr] at hres;have hei:=qnk hol hr;have hfi:(feet rs)[i]?=some (r.rh,r.ms.map (·.1)):=by simp[feet,hr]
  obtain⟨m,g1,g2,_,g4⟩:=qnl hc rfl i o _ hol hfi;rw[xr] at g1 g2;have hmi:∀q,m.testBit q=true->listed.getD q false=true:=λq hq'=>
   qkw (D:=λj=>listed.getD j false) hcl (feet rs) hfl hc he i o m q hol g1 hq' (λe hee hb=>hready e (by simpa using hee) hb)
  have indepW:∀(j:Nat)(e:Eff),(jf5 ops.toList rs)[j]?=some e->(listed.getD j false=true↔¬ j<i)->j≠i->
    ∃oj rj,ops.toList[j]?=some oj/\rs[j]?=some rj/\e=⟨oj.dst,rj.v,rj.ms⟩/\
     (∀d,oj.dst=some d->d∉qe5 ops.toList o/\o.dst≠some d)/\(∀q,q∈rj.ms.map (·.1)->q∉r.rh/\q∉r.ms.map (·.1)):=by
   intro j e hje hD hne
   have hjl:j<ops.toList.length:=by have:=(xg.1 hje).1;rwa[hel] at this
   have hjr:j<rs.length:=by omega
   obtain⟨oj,hoj⟩:∃oj,ops.toList[j]?=some oj:=⟨_,xt hjl⟩
   obtain⟨rj,hrj⟩:∃rj,rs[j]?=some rj:=⟨_,xt hjr⟩
   have hee:=qnk hoj hrj
   rw[hje] at hee
   simp only[Option.some.injEq] at hee
   refine⟨_,_,hoj,hrj,hee,?_⟩
   have hfj:(feet rs)[j]?=some (rj.rh,rj.ms.map (·.1)):=by simp[feet,hrj]
   rcases xP j i with hji|hji
   ·-- ahead in the text and not yet done: no edge binds
    have hDj:listed.getD j false=false:=by
     grind
    obtain⟨m',h⟩:=g4 j _ _ hji hoj hfj;rw[xr] at h;rcases h with h|h
    .grind
    .simp only[jf1,xp] at h;obtain⟨⟨⟨⟨⟨h1,h2⟩,h3⟩,h4⟩,h5⟩,h6⟩:=h;refine⟨λd hd=>⟨qcb h1 (by simp[hd]),λe=>?_⟩,λq hq=>⟨qcb h4 hq,qcb h5 hq⟩⟩;exact qcb h2 (x:=d) (by simp[hd]) (by simp[e])
   .have hDj:listed.getD j false=true:=hD.2 Q8E;obtain⟨mj,k1,k2,_,k4⟩:=qnl hc rfl j _ _ hoj hfj;rw[xr] at k1 k2;obtain⟨m',h⟩:=k4 i o _ Q8E hol hfi;rw[xr] at h;rcases h with h|h
    .have:=qkw (D:=λj=>listed.getD j false) hcl (feet rs) hfl hc he j _ mj i hoj k1 h (λe hee hb=>hcl j _ hoj hDj e hee hb)
     grind
    .simp only[jf1,xp] at h;obtain⟨⟨⟨⟨⟨h1,h2⟩,h3⟩,h4⟩,h5⟩,h6⟩:=h;refine⟨λd hd=>⟨qcb h3 (by simp[hd]),λe=>?_⟩,λq hq=>⟨qcb h6 hq,λhq2=>qcb h5 hq2 hq⟩⟩;exact qcb h2 (x:=d) (by simp[e]) (by simp[hd])
  have agree:∀{α:Type}{f:St->α}{W:Eff->Prop},jjm f W->(∀(j:Nat)(e:Eff),(jf5 ops.toList rs)[j]?=some e->(listed.getD j false=true↔¬ j<i)->j≠i->¬ W e)->(¬ (listed.getD i false=true↔¬ i<i))->
    f (cur (λj=>listed.getD j false) 0 (jf5 ops.toList rs) st)=f (cur (λj=>decide (j<i)) 0 (jf5 ops.toList rs) st):=λhp hw _=>by
   refine qcf hp _ 0 st st (λj e hje hwe=>?_) rfl
   rw[xr]
   by_cases hji:j=i
   .grind
   .by_cases hD:(listed.getD j false=true↔¬ j<i)
    .exact absurd hwe (hw j e hje hD hji)
    .cases h:listed.getD j false with
     | true=>
      grind
     | false=>
      grind
  have hii:¬ (listed.getD i false=true↔¬ i<i):=λh=>by
   grind
  have hres':OpRes P ops.toList o (cur (λj=>listed.getD j false) 0 (jf5 ops.toList rs) st) r:=by
   refine hres.move (λt htr=>?_) (λq hq'=>?_) (λq hq'=>?_)
   .exact agree (qig t) (λj e hje hD hne hwe=>by
     obtain⟨oj,rj,_,_,rfl,h1,_⟩:=indepW j e hje hD hne;exact(h1 t hwe).1 htr) hii
   .exact agree (qhs q) (λj e hje hD hne hwe=>by
     obtain⟨oj,rj,_,_,rfl,_,h2⟩:=indepW j e hje hD hne;exact(h2 q hwe).1 hq') hii
   .exact agree (qhs q) (λj e hje hD hne hwe=>by
     obtain⟨oj,rj,_,_,rfl,_,h2⟩:=indepW j e hje hD hne;exact(h2 q hwe).2 hq') hii
  refine q49 ho hres' R λρ' a' w' R'=>?_
  have hget:∀j,(listed.setIfInBounds i true).getD j false=(decide (j=i)||listed.getD j false):=λj=>by
   by_cases hji:j=i
   .subst hji;simp[yP,zu,his]
   exact Q4l
  have hcur:cur (λj=>(listed.setIfInBounds i true).getD j false) 0 (jf5 ops.toList rs) st=(cur (λj=>listed.getD j false) 0 (jf5 ops.toList rs) st).after o.dst r.v r.ms:=by
   have hfun:(λj=>(listed.setIfInBounds i true).getD j false)=(λj=>decide (j=i)||listed.getD j false):=funext hget;rw[hfun];have later:∀(j:Nat)(e:Eff),(jf5 ops.toList rs)[j]?=some e->i<0+j->listed.getD (0+j) false=true->(∀d,e.dst=some d->o.dst≠some d)/\∀q,q∈e.ms.map (·.1)->q∉r.ms.map (·.1):=λj e hje hlt' hD=>by
    rw[xr] at hlt' hD;obtain⟨oj,rj,_,_,rfl,h1,h2⟩:=indepW j e hje ⟨λ_=>by omega,λ_=>hD⟩ Q8E
    grind
   refine St.ext' (λq=>?_) (λq=>?_)
   .refine qkv (qig q) (e0:=⟨o.dst,r.v,r.ms⟩) (jf5 ops.toList rs) 0 st Q8E hei hDi (λhw j e hje hlt' hwe=>?_);cases h:listed.getD (0+j) false with
    | false=>rfl
    | true=>exact absurd hw ((later j e hje hlt' h).1 q hwe)
   .refine qkv (qhs q) (e0:=⟨o.dst,r.v,r.ms⟩) (jf5 ops.toList rs) 0 st Q8E hei hDi (λhw j e hje hlt' hwe=>?_);cases h:listed.getD (0+j) false with
    | false=>rfl
    | true=>exact absurd hw ((later j e hje hlt' h).2 q hwe)
  refine ih (S.erase i) (listed.setIfInBounds i true) ?_ (hnd.erase i) (by simp[hsz]) (λj hj=>?_) (λj hj=>hlt j (List.mem_of_mem_erase hj)) (λj oj hoj hDj e hee hb=>?_) ρ' a' w' (by rw[hcur];exact R')
  .rw[List.length_erase_of_mem hiS,hS];rfl
  .rw[hget,hnd.mem_erase_iff];simp only[y5,xh,hdS j hj]
   grind
  .rw[hget] at hDj ⊢;simp only[y5,xh] at hDj ⊢;rcases hDj with rfl|hDj
   .rw[hol] at hoj
    grind
   .exact .inr (hcl j oj hoj hDj e hee hb)
theorem qxl(ht:Trace P ops.toList ops.toList st rs st')(hc:qpt ops.toList (feet rs)=true)(he:qc5 ops.toList 0=true)(hq:∀ρ a w,Rel X ρ st' a w->Q .normal a w){ρ:Rz}{a:Act}{w:World}(R:Rel X ρ st a w):
  wpAny P .any ops Q ops.size (Array.replicate ops.size false) a w:=by
 have h0:∀j,(Array.replicate ops.size false).getD j false=false:=λj=>Q4I
 refine q6r ht hc he hq ops.size (List.range ops.size) _ Q8P List.nodup_range Q8P (λi hi=>?_) (λi hi=>by simpa using hi) (λj o _ h=>by rw[h0] at h;cases h) ρ a w ?_
 .simp_all
 .grind[qe4]
end
structure Stp where
 i:Nat
 o:Oper
 r:Res
 f:List Nat×List Nat
 mu:Bool
def effsS(S:List Stp):List Eff:=S.map λs=>⟨s.o.dst,s.r.v,s.r.ms⟩
variable{S:List Stp}
theorem qxm{s:Stp}(h:S[k]?=some s):(effsS S)[k]?=some ⟨s.o.dst,s.r.v,s.r.ms⟩:=by simp[effsS,h]
theorem qet{e:Eff}(h:(effsS S)[k]?=some e):∃s,S[k]?=some s/\e=⟨s.o.dst,s.r.v,s.r.ms⟩:=by
 grind[effsS]
def jk5(P:Program)(ops:List Oper)(st:St)(s:Stp):Prop:=(s.mu=false->OpRes P ops s.o st s.r)/\(∀q∈s.r.rh,q∈s.f.1)/\∀q∈s.r.ms.map (·.1),q∈s.f.2
def jfw(P:Program)(ops:List Oper):List Stp->St->St->Prop
 | [],st,st'=>st'=st
 | s::S,st,st'=>jk5 P ops st s/\jfw P ops S (st.after s.o.dst s.r.v s.r.ms) st'
theorem qnm{P:Program}{ops:List Oper}:∀{S:List Stp}{st st':St}{k0:Nat},jfw P ops S st st'->∀k s,S[k]?=some s->jk5 P ops (cur (λj=>decide (j<k0+k)) k0 (effsS S) st) s
 | [],_,_,_,_,k,s,h=>by simp at h
 | s'::S,st,st',k0,h,k,s,hs=>by
  obtain⟨h1,h2⟩:=h;cases k with
  | zero=>
   grind[qe4]
  | succ k=>
   have:=qnm (k0:=k0+1) h2 k s (by simpa using hs)
   grind[effsS,cur]
theorem qnn{P:Program}{ops:List Oper}:∀{S:List Stp}{st st':St}{k0:Nat},jfw P ops S st st'->cur (λ_=>true) k0 (effsS S) st=st'
 | [],_,_,_,h=>by cases h;rfl
 | s::S,st,st',k0,h=>by
  simp only[effsS,xq,cur];exact qnn h.2
theorem qth{P:Program}{ops:List Oper}:∀{S T:List Stp}{st m st':St},jfw P ops S st m->jfw P ops T m st'->jfw P ops (S++T) st st'
 | [],_,_,_,_,h,k=>by cases h;exact k
 | s::S,_,_,_,_,h,k=>⟨h.1,qth h.2 k⟩
theorem qxn{D:Nat->Bool}:∀(es es':List Eff)(k:Nat)(st:St),cur D k (es++es') st=cur D (k+es.length) es' (cur D k es st)
 | [],_,_,_=>rfl
 | e::es,es',k,st=>by
  simp only[List.cons_append,cur,yZ];rw[qxn es es' (k+1),show k+1+es.length=k+(es.length+1) by omega]
theorem qpv:∀(os:List Oper)(acc:List Nat)(k:Nat)(o:Oper),os[k]?=some o->(masks os acc)[acc.length+k]?=some (qht o ((masks os acc).take (acc.length+k)))
 | [],_,k,o,h=>by simp at h
 | o0::os,acc,k,o,h=>by
  cases k with
  | zero=>
   simp only[yQ,Option.some.injEq] at h;subst h;have htake:(masks (o0::os) acc).take (acc.length+0)=acc:=by
    apply ye
    grind[qd3]
   grind[masks,qd3]
  | succ k=>
   have:=qpv os (acc++[qht o0 acc]) k o Q9Y;simp only[yr,List.length_singleton] at this;rw[show acc.length+(k+1)=acc.length+1+k by omega];exact this
def mkAt(ops:List Oper)(i:Nat):Nat:=match jfz (masks ops []) i with
 | some m=>m
 | none=>0
theorem q6s{o:Oper}(h:ops[i]?=some o):mkAt ops i=qht o ((masks ops []).take i):=by
 have:=qpv ops [] i o h
 grind[mkAt,qb0]
theorem qge{D:Nat->Bool}(he:qc5 ops 0=true)(hcl:∀(j:Nat)(o:Oper),ops[j]?=some o->D j=true->∀e∈o.after.toList,Region.binds .any e=true->D e.on=true):
  ∀(j:Nat)(o:Oper)(i:Nat),ops[j]?=some o->(mkAt ops j).testBit i=true->(∀e∈o.after.toList,Region.binds .any e=true->D e.on=true)->D i=true:=by
 intro j
 induction j using Nat.strongRecOn with
 | _ j ih=>
  intro o i ho hb hedges;rw[q6s ho] at hb;obtain⟨e,hee,hbe,h⟩:=qtf hb;have hD:=hedges e hee hbe;rcases h with h|⟨m2,hm2,hb2⟩
  .rwa[<-h]
  .have hlt:=qii he j o ho e hee hbe;rw[xr] at hlt;rw[List.getElem?_take,if_pos hlt] at hm2;have hol:e.on<ops.length:=xA hlt (xg.1 ho).1;refine ih e.on hlt ops[e.on] i (xt hol) ?_ (hcl e.on _ (xt hol) hD)
   grind[mkAt,qb0]
def jfh(ops:List Oper)(s:Stp):jkt:=⟨qe5 ops s.o,s.o.dst.toList,s.f.1,s.f.2,0⟩
def qxo(ops:List Oper)(a b:Stp):Prop:=(mkAt ops b.i).testBit a.i=true\/jf1 (jfh ops a) (jfh ops b)=true
def jgk(ops:List Oper)(S:List Stp):Prop:=∀(k l:Nat)(a b:Stp),k<l->S[k]?=some a->S[l]?=some b->qxo ops a b
def qrx(P:Program)(o:Oper)(st:St)(hs:List Nat)(F:Value->Mz->Prop):Prop:=
 ∀st₂:St,(∀x∈o.op.operands.toList,∀u,EvTo x st u->EvTo x st₂ u)->(∀i∈hs,st₂.h[i]?=st.h[i]?)->EffAll P o st₂ F
structure Own(ops:List Oper)(S:List Stp):Prop where
 at_:∀(k:Nat)(s:Stp),S[k]?=some s->ops[s.i]?=some s.o
 inj:∀(k l:Nat)(a b:Stp),S[k]?=some a->S[l]?=some b->a.i=b.i->k=l
def qti(ops:List Oper)(o:Oper)(s:St):Prop:=match o.guard with
 | none=>True
 | some (j,want)=>∃(oj:Oper)(d:Nat),ops[j]?=some oj/\oj.dst=some d/\s.t[d]?=some (some (.bool want))
def jix(P:Program)(ops:List Oper)(Kend:St->Prop):List (Nat×List Nat)->List Stp->St->Prop
 | [],S,s=>Own ops S/\jgk ops S/\(∀i,i<ops.length->∃(k:Nat)(t:Stp),S[k]?=some t/\t.i=i)/\Kend s
 | (m,seg)::rest,S,s=>∃(om:Oper)(hs:List Nat),ops[m]?=some om/\qti ops om s/\(∀t:Stp,t.i=m->t.o=om->t.f=(hs,hs)->Own ops (S++[t])/\jgk ops (S++[t]))/\
   (∀i,i<ops.length->(∃(k:Nat)(t:Stp),S[k]?=some t/\t.i=i)\/i=m\/(mkAt ops i).testBit m=true)/\
   qrx P om s hs (λv ms=>(∀q∈ms.map (·.1),q∈hs)/\∃(S2:List Stp)(s2:St),(∀t∈S2,t.mu=false)/\jfw P ops S2 (s.after om.dst v ms) s2/\jix P ops Kend rest (S++⟨m,om,⟨v,ms,hs⟩,(hs,hs),true⟩::S2) s2)
def DL(listed:Array Bool)(S:List Stp)(k:Nat):Bool:=match S[k]? with
 | some s=>listed.getD s.i false
 | none=>false
theorem qf7{listed:Array Bool}{s:Stp}(h:S[k]?=some s):DL listed S k=listed.getD s.i false:=by grind[DL]
section
variable{P:Program}{ops:Array Oper}{Q:Exit->Act->World->Prop}{X:Ctx}{st:St}
variable{S:List Stp}{listed:Array Bool}
theorem qij{n:Nat}{α:Type}{f:St->α}{W:Eff->Prop}(hp:jjm f W)
  (hw:∀(j:Nat)(a:Stp),S[j]?=some a->(j<n->listed.getD a.i false=false->¬ W ⟨a.o.dst,a.r.v,a.r.ms⟩)/\(n<=j->listed.getD a.i false=true->¬ W ⟨a.o.dst,a.r.v,a.r.ms⟩)) :
  f (cur (DL listed S) 0 (effsS S) st)=f (cur (λj=>decide (j<n)) 0 (effsS S) st):=by
 refine qcf hp _ 0 st st (λj e hje hwe=>?_) rfl
 rw[xr]
 obtain⟨a,ha,rfl⟩:=qet hje
 rw[qf7 ha]
 obtain⟨w1,w2⟩:=hw j a ha
 rcases xP j n with h|h
 .simp_all
 .simp_all
theorem qeu{ops:List Oper}{a b:Stp}(h:jf1 (jfh ops a) (jfh ops b)=true):
  (∀t∈qe5 ops b.o,¬ a.o.dst=some t)/\(∀t,a.o.dst=some t->¬ b.o.dst=some t)/\(∀t∈qe5 ops a.o,¬ b.o.dst=some t)/\(∀q∈a.f.2,q∉b.f.1/\q∉b.f.2)/\∀q∈b.f.2,q∉a.f.1:=by
 simp only[jf1,xp] at h
 obtain⟨⟨⟨⟨⟨h1,h2⟩,h3⟩,h4⟩,h5⟩,h6⟩:=h
 refine⟨λt ht e=>qcb h1 (x:=t) (by simp[jfh,e]) ht,λt e e2=>qcb h2 (x:=t) (by simp[jfh,e]) (by simp[jfh,e2]),λt ht e=>qcb h3 (x:=t) (by simp[jfh,e]) ht,λq hq=>⟨qcb h4 hq,qcb h5 hq⟩,λq hq=>qcb h6 hq⟩
theorem q11(he:qc5 ops.toList 0=true){s':St}(ho:Own ops.toList S)(hp:jgk ops.toList S)(hg:jfw P ops.toList S st s')(hsz:listed.size=ops.size)
  (hcl:∀(j:Nat)(o:Oper),ops.toList[j]?=some o->listed.getD j false=true->∀e∈o.after.toList,Region.binds .any e=true->listed.getD e.on false=true)
  {k:Nat} {b:Stp} (hk:S[k]?=some b) (hmu:b.mu=false) (hD:listed.getD b.i false=false) (hready:∀e∈b.o.after.toList,Region.binds .any e=true->listed.getD e.on false=true)
  {ρ:Rz} {a:Act} {w:World} (R:Rel X ρ (cur (DL listed S) 0 (effsS S) st) a w) {next:Act->World->Prop}
  (hn:∀ρ' a' w',Rel X ρ' (cur (DL (listed.setIfInBounds b.i true) S) 0 (effsS S) st) a' w'->next a' w'):wpOp P ops Q b.i next a w:=by
 have hbo:=ho.at_ k b hk
 have mb:∀q,(mkAt ops.toList b.i).testBit q=true->listed.getD q false=true:=λq hq=>qge (D:=λj=>listed.getD j false) he hcl b.i b.o q hbo hq hready
 have ahead:∀(j:Nat)(c:Stp),S[j]?=some c->j<k->listed.getD c.i false=false->jf1 (jfh ops.toList c) (jfh ops.toList b)=true:=λj c hc hj hl=>by
  rcases hp j k c b hj hc hk with h|h
  .simp_all
  .exact h
 have behind:∀(j:Nat)(c:Stp),S[j]?=some c->k<=j->listed.getD c.i false=true->jf1 (jfh ops.toList b) (jfh ops.toList c)=true:=λj c hc hj hl=>by
  have hne:k≠j:=λe=>by subst e;rw[hk] at hc;cases hc;rw[hD] at hl;cases hl
  rcases hp k j b c Q8E hk hc with h|h
  .have:=qge (D:=λj=>listed.getD j false) he hcl c.i c.o b.i (ho.at_ j c hc) h (λe hee hbe=>hcl c.i c.o (ho.at_ j c hc) hl e hee hbe);simp_all
  .exact h
 have gb:=qnm (k0:=0) hg k b hk
 rw[xr] at gb
 have gf:∀(j:Nat)(c:Stp),S[j]?=some c->∀q∈c.r.ms.map (·.1),q∈c.f.2:=λj c hc=>(qnm (k0:=0) hg j c hc).2.2
 have hres:OpRes P ops.toList b.o (cur (DL listed S) 0 (effsS S) st) b.r:=by
  refine(gb.1 hmu).move (λt ht=>?_) (λq hq=>?_) (λq hq=>?_)
  .exact qij (qig t) λj c hc=>⟨λhj hl hw=>(qeu (ahead j c hc hj hl)).1 t ht hw,λhj hl hw=>(qeu (behind j c hc hj hl)).2.2.1 t ht hw⟩
  .exact qij (qhs q) λj c hc=>⟨λhj hl hw=>((qeu (ahead j c hc hj hl)).2.2.2.1 q (gf j c hc q hw)).1 (gb.2.1 q hq),λhj hl hw=>(qeu (behind j c hc hj hl)).2.2.2.2 q (gf j c hc q hw) (gb.2.1 q hq)⟩
  .exact qij (qhs q) λj c hc=>⟨λhj hl hw=>((qeu (ahead j c hc hj hl)).2.2.2.1 q (gf j c hc q hw)).2 (gb.2.2 q hq),λhj hl hw=>((qeu (behind j c hc hj hl)).2.2.2.1 q (gb.2.2 q hq)).2 (gf j c hc q hw)⟩
 have hb2:ops[b.i]?=some b.o:=by simpa using hbo
 have his:b.i<listed.size:=by rw[hsz];exact(xY.1 hb2).1
 refine q49 hb2 hres R λρ' a' w' R'=>hn ρ' a' w' ?_
 have hget:∀j,(listed.setIfInBounds b.i true).getD j false=(decide (j=b.i)||listed.getD j false):=λj=>by
  by_cases hji:j=b.i
  .simp_all
  exact Q4l
 have hfun:DL (listed.setIfInBounds b.i true) S=λj=>decide (j=k)||DL listed S j:=funext λj=>by
  cases hj:S[j]? with
  | none=>
   grind[DL]
  | some c=>
   rw[qf7 hj,qf7 hj,hget];congr 1;by_cases e:j=k
   .grind
   .have:c.i≠b.i:=λe2=>e (ho.inj j k c b hj hk e2)
    grind
 have hcur:cur (DL (listed.setIfInBounds b.i true) S) 0 (effsS S) st=(cur (DL listed S) 0 (effsS S) st).after b.o.dst b.r.v b.r.ms:=by
  rw[hfun];have hei:=qxm hk;have hDk:DL listed S k=false:=by rw[qf7 hk];exact hD
  refine St.ext' (λq=>?_) (λq=>?_)
  .refine qkv (qig q) (e0:=⟨b.o.dst,b.r.v,b.r.ms⟩) (effsS S) 0 st Q8E hei hDk (λhw j e hje hlt' hwe=>?_);obtain⟨c,hc,rfl⟩:=qet hje;rw[xr] at hlt' ⊢;rw[qf7 hc];cases h:listed.getD c.i false with
   | false=>rfl
   | true=>exact absurd hwe ((qeu (behind j c hc Q8E h)).2.1 q hw)
  .refine qkv (qhs q) (e0:=⟨b.o.dst,b.r.v,b.r.ms⟩) (effsS S) 0 st Q8E hei hDk (λhw j e hje hlt' hwe=>?_);obtain⟨c,hc,rfl⟩:=qet hje;rw[xr] at hlt' ⊢;rw[qf7 hc];cases h:listed.getD c.i false with
   | false=>rfl
   | true=>exact absurd (gf j c hc q hwe) ((qeu (behind j c hc Q8E h)).2.2.2.1 q (gb.2.2 q hw)).2
 rw[hcur]
 exact R'
structure Done(ops:Array Oper)(fuel:Nat)(U:List Nat)(listed:Array Bool):Prop where
 len:U.length=fuel
 nd:U.Nodup
 sz:listed.size=ops.size
 un:∀i,i<ops.size->(listed.getD i false=true↔i∉U)
 lt:∀i∈U,i<ops.size
 cl:∀(j:Nat)(o:Oper),ops.toList[j]?=some o->listed.getD j false=true->∀e∈o.after.toList,Region.binds .any e=true->listed.getD e.on false=true
variable{i:Nat}
theorem qfu(h:i<listed.size)(j:Nat):(listed.setIfInBounds i true).getD j false=(decide (j=i)||listed.getD j false):=by
 by_cases hji:j=i
 .simp_all
 exact Q4l
theorem Done.step{fuel:Nat}{U:List Nat}(d:Done ops (fuel+1) U listed){o:Oper}(hi:ops[i]?=some o)(hD:listed.getD i false=false)(hready:∀e∈o.after.toList,Region.binds .any e=true->listed.getD e.on false=true):
  Done ops fuel (U.erase i) (listed.setIfInBounds i true):=by
 have hil:=(xY.1 hi).1
 have his:i<listed.size:=by rw[d.sz];exact hil
 have hiU:i∈U:=by
  rcases Classical.em (i∈U) with h|h
  .exact h
  .have:=(d.un i hil).2 h;rw[hD] at this;cases this
 have hol:ops.toList[i]?=some o:=by simpa using hi
 refine⟨?_,d.nd.erase i,by simp[d.sz],λj hj=>?_,λj hj=>d.lt j (List.mem_of_mem_erase hj),λj oj hoj hDj e hee hb=>?_⟩
 .rw[List.length_erase_of_mem hiU,d.len];rfl
 .rw[qfu his,d.nd.mem_erase_iff];simp only[y5,xh,d.un j hj]
  grind
 .rw[qfu his] at hDj ⊢;simp only[y5,xh] at hDj ⊢;rcases hDj with rfl|hDj
  .simp_all
  .exact .inr (d.cl j oj hoj hDj e hee hb)
theorem qik(hsz:listed.size=ops.size)(h:i∈Region.ready .any ops listed):∃o,ops[i]?=some o/\listed.getD i false=false/\∀e∈o.after.toList,Region.binds .any e=true->listed.getD e.on false=true:=by
 obtain⟨h0,o,ho,hr⟩:=mem_ready.1 h
 grind
theorem qtj(he:qc5 ops.toList 0=true)(hsz:listed.size=ops.size)(hr:Region.ready .any ops listed=[]):∀i,i<ops.size->listed.getD i false=true:=by
 intro i
 induction i using Nat.strongRecOn with
 | _ i ih=>
  intro hi;cases hl:listed.getD i false with
  | true=>rfl
  | false=>
   exfalso;exact Q2z
theorem qxp(he:qc5 ops.toList 0=true){s':St}(ho:Own ops.toList S)(hp:jgk ops.toList S)(hg:jfw P ops.toList S st s')(Inv:Array Bool->Prop)
  (hInv:∀(listed:Array Bool)(k:Nat)(b:Stp),listed.size=ops.size->S[k]?=some b->Inv listed->Inv (listed.setIfInBounds b.i true))
  (hmul:∀(listed:Array Bool)(k:Nat)(b:Stp),Inv listed->S[k]?=some b->b.mu=true->listed.getD b.i false=true)
  (hend:∀listed:Array Bool,Inv listed->(∀i,i<ops.size->listed.getD i false=true)->∀ρ a w,Rel X ρ (cur (DL listed S) 0 (effsS S) st) a w->Q .normal a w)
  (hoth:∀(fuel:Nat)(U:List Nat)(listed:Array Bool)(i:Nat)(o:Oper),Done ops (fuel+1) U listed->Inv listed->ops[i]?=some o->listed.getD i false=false->(∀e∈o.after.toList,Region.binds .any e=true->listed.getD e.on false=true)->(∀(k:Nat)(b:Stp),S[k]?=some b->b.i≠i)->
   ∀ρ a w,Rel X ρ (cur (DL listed S) 0 (effsS S) st) a w->wpOp P ops Q i (wpAny P .any ops Q fuel (listed.setIfInBounds i true)) a w) :
  ∀(fuel:Nat)(U:List Nat)(listed:Array Bool),Done ops fuel U listed->Inv listed->∀ρ a w,Rel X ρ (cur (DL listed S) 0 (effsS S) st) a w->wpAny P .any ops Q fuel listed a w:=by
 intro fuel
 induction fuel with
 | zero=>
  intro U listed d hI ρ a w R;have hU:U=[]:=y7.1 d.len;subst hU;have hall:∀i,i<ops.size->listed.getD i false=true:=λi hi=>(d.un i hi).2 Q8P
  refine⟨?_,hend listed hI hall ρ a w R⟩;apply List.eq_nil_iff_forall_not_mem.2;intro j hj;obtain⟨o,h1,h2,_⟩:=qik d.sz hj
  grind
 | succ fuel ih=>
  intro U listed d hI ρ a w R;refine⟨λhr=>hend listed hI (qtj he d.sz hr) ρ a w R,λi hi=>?_⟩;obtain⟨o,h1,h2,h3⟩:=qik d.sz hi;rcases Classical.em (∃(k:Nat)(b:Stp),S[k]?=some b/\b.i=i) with ⟨k,b,hk,rfl⟩|hno
  .have hbo:b.o=o:=by
    have:=ho.at_ k b hk
    grind
   subst hbo;have hmu:b.mu=false:=by
    grind
   exact q11 he ho hp hg d.sz d.cl hk hmu h2 h3 R λρ' a' w' R'=>ih (U.erase b.i) _ (d.step h1 h2 h3) (hInv listed k b d.sz hk hI) ρ' a' w' R'
  grind
theorem qil{ops:List Oper}{t:Stp}(h:Own ops (S++[t])):Own ops S/\∀(k:Nat)(b:Stp),S[k]?=some b->b.i≠t.i:=by
 have front:∀(k:Nat)(b:Stp),S[k]?=some b->(S++[t])[k]?=some b:=λk b hk=>by rw[zy (xg.1 hk).1];exact hk
 refine⟨⟨λk b hk=>h.at_ k b (front k b hk),λk l a b hk hl e=>h.inj k l a b (front k a hk) (front l b hl) e⟩,λk b hk e=>?_⟩;have:=h.inj k S.length b t (front k b hk) Q9Z e;simp_all
theorem qkx{ops:List Oper}{t:Stp}(h:jgk ops (S++[t])):jgk ops S/\∀(k:Nat)(b:Stp),S[k]?=some b->qxo ops b t:=by
 have front:∀(k:Nat)(b:Stp),S[k]?=some b->(S++[t])[k]?=some b:=λk b hk=>by rw[zy (xg.1 hk).1];exact hk
 exact⟨λk l a b hkl hk hl=>h k l a b hkl (front k a hk) (front l b hl),λk b hk=>h k S.length b t (xg.1 hk).1 (front k b hk) Q9Z⟩
variable{Kend:St->Prop}
theorem qtk:∀{rest:List (Nat×List Nat)}{S:List Stp}{s:St},jix P ops.toList Kend rest S s->Own ops.toList S/\jgk ops.toList S
 | [],S,s,h=>⟨h.1,h.2.1⟩
 | (m,seg)::rest,S,s,h=>by
  obtain⟨om,hs,_,_,h3,_⟩:=h;obtain⟨h4,h5⟩:=h3 ⟨m,om,⟨undef,[],hs⟩,(hs,hs),true⟩ rfl rfl rfl
  grind[qil,qkx]
theorem qxq(he:qc5 ops.toList 0=true)(hq:∀s ρ a w,Kend s->Rel X ρ s a w->Q .normal a w):
  ∀(rest:List (Nat×List Nat))(S:List Stp)(s:St),jix P ops.toList Kend rest S s->Own ops.toList S->jgk ops.toList S->jfw P ops.toList S st s->
  ∀(fuel:Nat)(U:List Nat)(listed:Array Bool),Done ops fuel U listed->(∀(k:Nat)(t:Stp),S[k]?=some t->t.mu=true->listed.getD t.i false=true)->(∀x,rest.head? = some x->listed.getD x.1 false=false)->
   ∀ρ a w,Rel X ρ (cur (DL listed S) 0 (effsS S) st) a w->wpAny P .any ops Q fuel listed a w:=by
 intro rest
 induction rest with
 | nil=>
  intro S s hP ho hp hg fuel U listed d hmu _ ρ a w R;obtain⟨_,_,hcov,hK⟩:=hP;refine qxp he ho hp hg (λlisted=>∀(k:Nat)(t:Stp),S[k]?=some t->t.mu=true->listed.getD t.i false=true) (λlisted k b hsz hk hI k' t ht hm=>?_) (λlisted k b hI hk hm=>hI k b hk hm) (λlisted hI hall ρ a w R=>hq s ρ a w hK ?_) (λfuel U listed i o d hI h1 h2 h3 hno=>?_) fuel U listed d hmu ρ a w R
  .grind[qfu]
  .have:cur (DL listed S) 0 (effsS S) st=s:=by
    rw[<-qnn (k0:=0) hg];refine St.ext' (λq=>?_) (λq=>?_)
    .refine qcf (qig q) _ 0 st st (λj e hje _=>?_) rfl;exact Q3J
    .refine qcf (qhs q) _ 0 st st (λj e hje _=>?_) rfl;exact Q3J
   simp_all
  grind
 | cons x rest ih=>
  obtain⟨m,seg⟩:=x;intro S s hP ho hp hg fuel U listed d hmu hhead ρ a w R;obtain⟨om,hs,hm,hgd,hown,hcov,hM⟩:=hP;have hm2:ops[m]?=some om:=by simpa using hm
  have hml:=(xY.1 hm2).1;obtain⟨t0,ht0⟩:∃t0:Stp,t0=⟨m,om,⟨undef,[],hs⟩,(hs,hs),true⟩:=⟨_,rfl⟩;obtain⟨o1,o2⟩:=hown t0 (by rw[ht0]) (by rw[ht0]) (by rw[ht0]);have hnm:∀(k:Nat)(b:Stp),S[k]?=some b->b.i≠m:=λk b hk e=>(qil o1).2 k b hk (by rw[ht0];exact e)
  refine qxp he ho hp hg (λlisted=>(∀(k:Nat)(t:Stp),S[k]?=some t->t.mu=true->listed.getD t.i false=true)/\listed.getD m false=false) (λlisted k b hsz hk hI=>?_) (λlisted k b hI hk hm=>hI.1 k b hk hm) (λlisted hI hall ρ a w R=>?_) (λfuel U listed i o d hI h1 h2 h3 hno ρ a w R=>?_) fuel U listed d ⟨hmu,hhead _ rfl⟩ ρ a w R
  .have hb:b.i<listed.size:=by
    have:=ho.at_ k b hk
    grind
   grind[qfu]
  .grind
  .have hil:i<ops.toList.length:=by simpa using (xY.1 h1).1
   have hol:ops.toList[i]?=some o:=by simpa using h1
   have masked:∀j,j<ops.toList.length->(∀(k:Nat)(b:Stp),S[k]?=some b->b.i≠j)->j≠m->listed.getD j false=false:=λj hj hjS hjm=>by
    rcases hcov j hj with ⟨k,t,hk,e⟩|e|e
    .grind
    .omega
    .cases hl:listed.getD j false with
     | false=>rfl
     | true=>
      have hoj:ops.toList[j]?=some ops.toList[j]:=xt hj;have:=qge (D:=λj=>listed.getD j false) he d.cl j _ m hoj e (d.cl j _ hoj hl)
      grind
   rcases hcov i hil with ⟨k,t,hk,e⟩|rfl|e
   .grind
   .have hoo:o=om:=by rw[hm2] at h1;cases h1;rfl
    subst hoo;have agr:∀{α:Type}{f:St->α}{W:Eff->Prop},jjm f W->(∀(j:Nat)(c:Stp),S[j]?=some c->jf1 (jfh ops.toList c) (jfh ops.toList t0)=true->¬ W ⟨c.o.dst,c.r.v,c.r.ms⟩)->f (cur (DL listed S) 0 (effsS S) st)=f s:=λhpt hw=>by
     rw[qij (n:=S.length) hpt λj c hc=>⟨λhj hl=>hw j c hc ?_,λhj hl=>absurd (xg.1 hc).1 Q8E⟩,<-qnn (k0:=0) hg]
     .refine qcf hpt _ 0 st st (λj e hje _=>?_) rfl
      grind[qet]
     .rcases(qkx o2).2 j c hc with h|h
      .rw[ht0] at h;have:=qge (D:=λj=>listed.getD j false) he d.cl i o c.i hol h h3
       grind
      .exact h
    have hw:Region.wanted o (yielded ops a.tmps)=true:=by
     unfold qti at hgd;cases hg':o.guard with
     | none=>simp[Region.wanted,hg']
     | some jw=>
      obtain⟨j,want⟩:=jw;rw[hg'] at hgd;obtain⟨oj,dj,hj,hdj,hb⟩:=hgd;have hb2:=(agr (qig dj) λj c hc hi hwe=>(qeu hi).1 dj (by
       rw[ht0];unfold qe5
       grind[qb0]) hwe).trans hb
      obtain⟨y,hy,hyd⟩:=R.slot dj _ hb2;have hyb:y=.bool want:=hyd.self.symm;have hj':ops[j]?=some oj:=by simpa using hj
      have hyl:yielded ops a.tmps j=some want:=by simp[yielded,hj',hdj,hy,hyb]
      simp[Region.wanted,hg',hyl]
    unfold wpOp;rw[h1];simp only;rw[if_pos hw];have hE:=hM (cur (DL listed S) 0 (effsS S) st) (λx hx u hu=>qtg (λt ht=>agr (qig t) λj c hc hi hwe=>(qeu hi).1 t (by
      grind[qe5]) hwe) hu)
     (λq hq=>agr (qhs q) λj c hc hi hwe=>((qeu hi).2.2.2.1 q ((qnm (k0:=0) hg j c hc).2.2 q hwe)).1 (by rw[ht0];exact hq))
    refine .inl (hE X ρ a w R _ Q λv ms ρ' x w' hF ha=>?_);obtain⟨hms,S2,s2,hmu2,hg2,hP2⟩:=hF;obtain⟨e1,he1⟩:∃e1:Stp,e1=⟨i,o,⟨v,ms,hs⟩,(hs,hs),true⟩:=⟨_,rfl⟩;rw[<-he1] at hP2;obtain⟨w1,w2⟩:=qtk hP2;have his:i<listed.size:=by rw[d.sz];exact hml
    have inL:∀(k:Nat)(b:Stp),S[k]?=some b->(S++e1::S2)[k]?=some b:=λk b hk=>by rw[zy (xg.1 hk).1];exact hk
    have inM:(S++e1::S2)[S.length]?=some e1:=by rw[zr (nlr _)];simp
    have inR:∀(k:Nat)(b:Stp),S2[k]?=some b->(S++e1::S2)[S.length+1+k]?=some b:=λk b hk=>by
     rw[zr Q8E,show S.length+1+k-S.length=k+1 by omega];simpa using hk
    have hg1:jfw P ops.toList (S++e1::S2) st s2:=qth hg ⟨⟨λh=>(by rw[he1] at h;cases h),λq hq=>(by rw[he1] at hq ⊢;exact hq),λq hq=>(by rw[he1] at hq ⊢;exact hms q hq)⟩,by rw[he1];exact hg2⟩;have un2:∀(k:Nat)(b:Stp),S2[k]?=some b->listed.getD b.i false=false/\b.i≠i:=λk b hk=>by
     have hne:b.i≠i:=λe=>by
      have:=w1.inj _ _ b e1 (inR k b hk) inM (by rw[he1];exact e);omega
     refine⟨masked b.i ?_ (λk' c hc e=>?_) hne,hne⟩
     .exact(xg.1 (w1.at_ _ b (inR k b hk))).1
     .have:=w1.inj _ _ c b (inL k' c hc) (inR k b hk) e
      grind
    refine ih (S++e1::S2) s2 hP2 w1 w2 hg1 fuel (U.erase i) _ (d.step h1 h2 h3) (λk t hk hmt=>?_) (λy hy=>?_) ρ' _ w' ?_
    .rw[qfu his];rcases Nat.lt_trichotomy k S.length with hlt|rfl|hgt
     .grind
     .grind
     .obtain⟨j,rfl⟩:∃j,k=S.length+1+j:=⟨k-(S.length+1),by omega⟩;have hj:S2[j]?=some t:=by
       rw[zr Q8E,show S.length+1+j-S.length=j+1 by omega] at hk
       grind
      rw[hmu2 t (xL hj)] at hmt;cases hmt
    .cases hr:rest with
     | nil=>rw[hr] at hy;cases hy
     | cons z rest'=>
      obtain⟨m2,seg2⟩:=z;rw[hr] at hy hP2;simp only[List.head?_cons,Option.some.injEq] at hy;subst hy;obtain⟨om2,hs2,hm2',_,hown2,_⟩:=hP2;obtain⟨p1,_⟩:=hown2 ⟨m2,om2,⟨undef,[],hs2⟩,(hs2,hs2),true⟩ rfl rfl rfl;have hne:m2≠i:=λe=>(qil p1).2 _ e1 inM (by rw[he1];exact e.symm)
      rw[qfu his,masked m2 (xg.1 hm2').1 (λk b hk e=>(qil p1).2 _ b (inL k b hk) e) hne];simp[hne]
    .have hcur:cur (DL (listed.setIfInBounds i true) (S++e1::S2)) 0 (effsS (S++e1::S2)) st=(cur (DL listed S) 0 (effsS S) st).after o.dst v ms:=by
      have hsplit:effsS (S++e1::S2)=effsS S++⟨o.dst,v,ms⟩::effsS S2:=by rw[he1];simp[effsS]
      have hlen:(effsS S).length=S.length:=by simp[effsS]
      rw[hsplit,qxn,hlen,xr];have hfst:cur (DL (listed.setIfInBounds i true) (S++e1::S2)) 0 (effsS S) st=cur (DL listed S) 0 (effsS S) st:=by
       have key:∀(j:Nat)(e:Eff),(effsS S)[j]?=some e->DL (listed.setIfInBounds i true) (S++e1::S2) (0+j)=DL listed S (0+j):=λj e hje=>by
        obtain⟨c,hc,rfl⟩:=qet hje;rw[xr,qf7 (inL j c hc),qf7 hc,qfu his];simp[hno j c hc]
       exact St.ext' (λq=>qcf (qig q) _ 0 st st (λj e hje _=>key j e hje) rfl) (λq=>qcf (qhs q) _ 0 st st (λj e hje _=>key j e hje) rfl)
      rw[hfst];have hmid:DL (listed.setIfInBounds i true) (S++e1::S2) S.length=true:=by rw[qf7 inM,qfu his,he1];simp
      simp only[cur,hmid];refine qe4 _ _ _ λj hj=>?_
      have hj2:j<S2.length:=by simpa[effsS] using hj
      have hc:S2[j]?=some S2[j]:=xt hj2;rw[qf7 (inR j _ hc),qfu his,(un2 j _ hc).1]
      grind
     grind[qfl]
   .have:=qge (D:=λj=>listed.getD j false) he d.cl i o m hol e h3
    grind
end
noncomputable def jlz(ops:List Oper):Bool:=List.rec (motive:=λ_=>Bool) false (λo _ ih=>match o.op with
 | .call ⟨.builtin .append,_,_⟩=>true
 | _=>ih) ops
noncomputable def callB(ops:List Oper):Bool:=List.rec (motive:=λ_=>Bool) false (λo _ ih=>match o.op with
 | .call ⟨.value _,_,_⟩=>true
 | _=>ih) ops
def jm1(b:Bool)(A B:Prop):Prop:=match b with
 | false=>A
 | true=>N (jmh A B)
variable{b:Bool}
theorem q12{B:Prop}(h:jm1 b A B):A\/B:=by
 cases b with
 | false=>exact .inl h
 | true=>exact N.out h
noncomputable def entB(ops:List Oper):Bool:=List.rec (motive:=λ_=>Bool) false (λo _ ih=>match o.op with
 | .mapEntry _ _ _=>true
 | _=>ih) ops
def jmj(ops:List Oper):List Nat->(List Oper->Prop)->Prop
 | [],K=>K []
 | i::r,K=>match jfz ops i with
  | some o=>jmj ops r λos=>K (o::os)
  | none=>False
theorem qtl{ops:List Oper}:∀{L:List Nat}{K:List Oper->Prop},jmj ops L K->∃os,os.length=L.length/\(∀(k i:Nat)(o:Oper),L[k]?=some i->os[k]?=some o->ops[i]?=some o)/\K os
 | [],K,h=>⟨[],rfl,λk i o h1 _=>by simp at h1,h⟩
 | i::r,K,h=>by
  unfold jmj at h;rw[qb0] at h;split at h
  .rename_i o ho;obtain⟨os,h1,h2,h3⟩:=qtl h
   grind
  simp_all
abbrev jgl:=List (Nat×List Nat×List Nat)
def qxr:List Oper->Nat
 | []=>0
 | o::os=>qcc o.op+qxr os
def jiy(ops:List Oper)(x:Nat×List Nat×List Nat):jkt:=match jfz ops x.1 with
 | some o=>⟨qe5 ops o,o.dst.toList,x.2.1,x.2.2,0⟩
 | none=>⟨[],[],[],[],0⟩
def jh9(ops:List Oper):jgl->Bool
 | []=>true
 | x::r=>r.all (λy=>Nat.testBit (mkAt ops y.1) x.1||jf1 (jiy ops x) (jiy ops y))&&jh9 ops r
def qpw:List Nat->Bool
 | []=>true
 | x::r=>r.all (λy=>!(Nat.beq x y))&&qpw r
def jm2(ops:List Oper)(A:jgl)(m:Nat)(hs:List Nat):Bool:=
 jh9 ops (A++[(m,hs,hs)])&&(qpw (A.map (·.1)++[m])&&(List.range ops.length).all λi=>(A.any λx=>Nat.beq x.1 i)||(Nat.beq i m||Nat.testBit (mkAt ops i) m))
def jmk(ops:List Oper)(A:jgl):Bool:=
 jh9 ops A&&(qpw (A.map (·.1))&&(List.range ops.length).all λi=>A.any λx=>Nat.beq x.1 i)
noncomputable def segK(P:Program)(G:Tys)(ops:List Oper)(L:List Nat)(sl:Nat)(st:St)(A:jgl)(K:Nat->St->jgl->Prop):Prop:=
 jmj ops L λos=>wpR P G ops os sl st [] λs acc=>jfk (sl+qxr os) λsl'=>K sl' s (A++List.zip L acc.reverse)
def jia(P:Program)(g:FuncId)(vs:List Value)(h:Hp)(slot:Nat)(C:List Nat->Prop)(K:List Nat->Value->Mz->Prop):Prop:=
 ∃(hs:List Nat)(R:Value->Mz->Prop),C hs/\(∀h₂:Hp,(∀q∈hs,h₂[q]?=h[q]?)->CallAll P g vs h₂ R)/\∀v ms,R v ms->(∀q∈ms.map (·.1),q∈hs)/\K hs v ms
def q5a(P:Program)(o:Oper)(st:St)(C:List Nat->Prop)(K:List Nat->Value->Mz->Prop):Prop:=
 ∃q,C q/\qrx P o st q λv ms=>(∀i∈ms.map (·.1),i∈q)/\K q v ms
def jjy(P:Program)(G:Tys)(o:Oper)(st:St)(slot:Nat)(C:List Nat->Prop)(K:List Nat->Value->Mz->Prop):Prop:=
 match o.op with
 | .call ⟨.builtin .append,⟨[x,y]⟩,⟨[t,t']⟩⟩=>match Nat.beq t t' with
  | true=>jet x st λp=>jet y st λq=>match q with
   | .slice (some ⟨j,g,some _⟩) m _=>jeq G t λ_ d=>match d with
    | .slice e=>jeq G e λei _=>match ei.zero with
     | some z=>match qap z&&flatB z ei.size&&Nat.ble 1 ei.size with
      | true=>jgo st.h j λcj=>match p with
       | .slice none 0 0=>N (Obl (C [j,slot]) (N (App0N cj g m ei.size ei.bytes z slot (K [j,slot]))))
       | .slice (some ⟨k,0,some s⟩) l c=>jgo st.h k λci=>N (Obl (C [k,j,slot]) (N (jmg ci k s l c cj g m ei.size ei.bytes z slot (K [k,j,slot]))))
       | .iface _ _=>N (q5a P o st C K)
       | _=>False
      | false=>False
     | none=>False
    | _=>False
   | .iface _ _=>N (q5a P o st C K)
   | _=>False
  | false=>False
 | .call ⟨.value f,xs,_⟩=>jet f st λfv=>match fv with
  | .func (.func g) ⟨us⟩ ⟨cs⟩=>match us.all cap1&&cs.all cap1 with
   | true=>jgr xs.toList st λvs=>jgs (us++vs++cs) λl=>N (jia P g l st.h slot C K)
   | false=>False
  | _=>False
 | _=>False
theorem qky{α β:Type}{p q:α->β->Prop}:∀{a:List α}{b:List β},All2 p a b->(∀x∈a,∀u,p x u->q x u)->All2 q a b
 | [],[],_,_=>trivial
 | [],_::_,h,_=>h.elim
 | _::_,[],h,_=>h.elim
 | x::a,u::b,h,hm=>⟨hm x Q8P u h.1,qky h.2 λy hy=>hm y (by simp[hy])⟩
theorem qxs{o:Oper}{slot:Nat}{C:List Nat->Prop}{K:List Nat->Value->Mz->Prop}(hG:jey P G)(hs:st.h[slot]?=some none)(h:jjy P G o st slot C K):∃q,C q/\qrx P o st q (λv ms=>(∀i∈ms.map (·.1),i∈q)/\K q v ms):=by
 unfold jjy at h;split at h
 .rename_i x y t t' ho;cases hb:Nat.beq t t' with
  | false=>rw[hb] at h;exact h.elim
  | true=>
   rw[hb] at h;obtain rfl:=xN hb;obtain⟨p,hp,h⟩:=qas h;obtain⟨q,hq,h⟩:=qas h;split at h
   .rename_i j g u m c2;obtain⟨i,d,h1,h2,h⟩:=qao hG h;split at h
    .obtain⟨ei,ed,h3,h4,h⟩:=qao hG h;split at h
     .rename_i z hz;cases hc:qap z&&flatB z ei.size&&Nat.ble 1 ei.size with
      | false=>rw[hc] at h;exact h.elim
      | true=>
       rw[hc] at h;simp only[xp,yE] at hc;obtain⟨cj,hj,h⟩:=qb5 h;split at h
       .obtain⟨hC,h⟩:=h.out;rcases N.out h with ⟨v,hr,hm,h63,hby,hk⟩|⟨rfl,hk⟩
        .refine⟨_,hC,λst₂ ha hh=>?_⟩;exact qhr ho (ha x Q8T _ hp) (ha y Q8T _ hq) h2 h3 hz hc.1.1 hc.1.2 hc.2 ((hh j Q8P).trans hj) hr hm h63 hby ((hh slot Q8P).trans hs) λcap hcap=>⟨by simp,hk cap hcap⟩
        .refine⟨_,hC,λst₂ ha hh=>?_⟩;exact qgd ho (ha x Q8T _ hp) (ha y Q8T _ hq) h2 h3 ⟨by simp,hk⟩
       .rename_i k' s' l' c';obtain⟨ci,hi,h⟩:=qb5 h;obtain⟨hC,h⟩:=h.out;obtain⟨v,hr,hf,hln,h63,hby,ha1,hk⟩:=N.out h;refine⟨_,hC,λst₂ ha hh=>?_⟩;exact qmk ho (ha x Q8T _ hp) (ha y Q8T _ hq) h2 h3 hz hc.1.1 hc.1.2 hc.2 ((hh _ Q8P).trans hi) hln ((hh j Q8P).trans hj) hr hf h63 hby ((hh slot Q8P).trans hs)
         (λhle=>by obtain⟨d,hw,hK⟩:=ha1 hle;exact⟨d,hw,by simp,hK⟩) (λhlt cap hcap=>⟨by simp,hk hlt cap hcap⟩)
       .exact N.out h
       .exact h.elim
     .exact h.elim
    .exact h.elim
   .exact N.out h
   .exact h.elim
 .rename_i f xs ts ho;obtain⟨v,hv,h⟩:=qas h;split at h
  .rename_i g us cs;cases hb:us.all cap1&&cs.all cap1 with
   | true=>
    rw[hb] at h;simp only[xp] at hb;obtain⟨vs,hx,h⟩:=qep h;have h:=qes (K:=λl=>N (jia P g l st.h slot C K)) h;obtain⟨q,R,hC,h1,h2⟩:=h.out;refine⟨q,hC,λst₂ ha hh=>?_⟩;refine qku ho (ha f Q8T _ hv) hb.1 hb.2 ?_ (h1 st₂.h hh) h2;exact qky hx λx hx' u hu=>ha x (by simp[ho,Op.operands,Call.operands];exact .inr (by simpa using hx')) _ hu
   | false=>rw[hb] at h;exact h.elim
  .exact h.elim
 .exact h.elim
def qxt(ops:List Oper)(o:Oper)(st:St)(K:Prop):Prop:=match o.guard with
 | none=>K
 | some (j,want)=>match jfz ops j with
  | some oj=>match oj.dst with
   | some d=>match st with
    | ⟨t0,_⟩=>jit t0 d λg=>match g with
     | .bool b=>N (Obl (b=want) K)
     | _=>False
   | none=>False
  | none=>False
theorem qvq{o:Oper}{K:Prop}(h:qxt ops o st K):qti ops o st/\K:=by
 obtain⟨t0,h0⟩:=st;unfold qxt at h;unfold qti;cases hg:o.guard with
 | none=>rw[hg] at h;exact⟨xb,h⟩
 | some jw=>
  obtain⟨j,want⟩:=jw;rw[hg] at h;simp only at h ⊢;rw[qb0] at h;split at h
  .rename_i oj hj;split at h
   .rename_i d hd;obtain⟨g,hgv,h⟩:=qef h;split at h
    .rename_i b;obtain⟨e,h'⟩:=N.out h;subst e;exact⟨⟨oj,d,hj,hd,hgv⟩,h'⟩
    .exact h.elim
   .exact h.elim
  .exact h.elim
noncomputable def planK(P:Program)(G:Tys)(ops:List Oper):List (Nat×List Nat)->Nat->St->jgl->(St->Prop)->Prop
 | [],_,st,A,K=>N (Obl (jmk ops A=true) (K st))
 | (m,seg)::rest,sl,st,A,K=>match jfz ops m with
  | some om=>qxt ops om st (match jfz st.h sl with
    | some none=>jjy P G om st sl (λhs=>jm2 ops A m hs=true) λhs v ms=>qdo st om.dst v ms λst'=>jfk (sl+qcc om.op) λsl'=>
      segK P G ops seg sl' st' (A++[(m,hs,hs)]) λsl'' st'' A'=>planK P G ops rest sl'' st'' A' K
    | _=>False)
  | none=>False
theorem qxu{P:Program}{ops:List Oper}:∀{os:List Oper}{L:List Nat}{rs:List Res}{st s:St},Trace P ops os st rs s->L.length=os.length->(∀(k i:Nat)(o:Oper),L[k]?=some i->os[k]?=some o->ops[i]?=some o)->
  ∃S:List Stp,jfw P ops S st s/\(∀t∈S,t.mu=false)/\(∀t∈S,ops[t.i]?=some t.o)/\(S.map λt=>(t.i,t.f))=List.zip L (feet rs)
 | [],L,rs,st,s,h,hl,hx=>by
  obtain⟨rfl,rfl⟩:=h;obtain rfl:L=[]:=y7.1 hl;exact⟨[],rfl,by simp,by simp,rfl⟩
 | o::os,[],rs,st,s,h,hl,hx=>by simp at hl
 | o::os,i::L,rs,st,s,h,hl,hx=>by
  obtain⟨r,rs',rfl,h1,h2⟩:=h;obtain⟨S,g1,g2,g3,g4⟩:=qxu (L:=L) h2 Q91 (λk j p hj hp=>hx (k+1) j p Q8V (by simpa using hp));refine⟨⟨i,o,r,(r.rh,r.ms.map (·.1)),false⟩::S,⟨⟨λ_=>h1,λq hq=>hq,λq hq=>hq⟩,g1⟩,?_,?_,?_⟩
  .simp_all
  .intro t ht;rcases xi.1 ht with rfl|ht
   .exact hx 0 i o rfl rfl
   simp_all
  .simp[feet,g4]
theorem qtm(hG:jey P G){L:List Nat}{sl:Nat}{A:jgl}{K:Nat->St->jgl->Prop}(h:segK P G ops L sl st A K):
  ∃(S:List Stp)(s:St)(sl':Nat),jfw P ops S st s/\(∀t∈S,t.mu=false)/\(∀t∈S,ops[t.i]?=some t.o)/\K sl' s (A++S.map λt=>(t.i,t.f)):=by
 obtain⟨os,h1,h2,h3⟩:=qtl h
 obtain⟨rs,s,ht,h4⟩:=qnj hG h3
 have h5:=qce (K:=λsl'=>K sl' s (A++List.zip L ((feet rs).reverse++[]).reverse)) h4
 obtain⟨S,g1,g2,g3,g4⟩:=qxu ht h1.symm h2
 refine⟨S,s,sl+qxr os,g1,g2,g3,?_⟩
 rw[g4]
 simpa using h5
theorem qno{ops:List Oper}:∀{S:List Stp},(∀t∈S,ops[t.i]?=some t.o)->jh9 ops (S.map λt=>(t.i,t.f))=true->jgk ops S
 | [],_,_=>λk l a b _ hk=>by simp at hk
 | t::S,ha,h=>by
  simp only[xq,jh9,xp] at h;have foot:∀c∈t::S,jiy ops (c.i,c.f)=jfh ops c:=λc hc=>by unfold jiy jfh;rw[qb0,ha c hc]
  intro k l a b hkl hk hl;cases l with
  | zero=>omega
  | succ l=>
   have hl:S[l]?=some b:=by simpa using hl
   cases k with
   | zero=>
    grind[qxo]
   | succ k=>exact qno (λc hc=>ha c (by simp[hc])) h.2 k l a b Q8E Q9F hl
theorem qxv{ops:List Oper}:∀{S:List Stp},(∀t∈S,ops[t.i]?=some t.o)->qpw (S.map λt=>t.i)=true->Own ops S
 | [],_,_=>⟨λk s h=>by simp at h,λk l a b hk=>by simp at hk⟩
 | t::S,ha,h=>by
  simp only[xq,qpw,xp] at h;have ih:=qxv (λc hc=>ha c (by simp[hc])) h.2;have ne:∀(l:Nat)(b:Stp),S[l]?=some b->t.i≠b.i:=λl b hl e=>by
   have:=yf.1 h.1 b.i (xE.2 ⟨b,xL hl,rfl⟩);simp_all
  refine⟨λk s hk=>ha s (xL hk),λk l a b hk hl e=>?_⟩;cases k with
  | zero=>
   grind
  | succ k=>
   cases l with
   | zero=>simp at hl;subst hl;exact absurd e.symm (ne k a Q9F)
   | succ l=>rw[ih.inj k l a b Q9F Q91 e]
theorem qpx{P:Program}{G:Tys}{ops:List Oper}(hG:jey P G){K:St->Prop}:∀{rest:List (Nat×List Nat)}{sl:Nat}{st:St}{A:jgl},planK P G ops rest sl st A K->∀S:List Stp,(S.map λt=>(t.i,t.f))=A->(∀t∈S,ops[t.i]?=some t.o)->jix P ops K rest S st
 | [],sl,st,A,h,S,hS,ha=>by
  obtain⟨h1,h2⟩:=N.out (show N (Obl (jmk ops A=true) (K st)) from h);subst hS;simp only[jmk,xp,List.map_map] at h1;refine⟨qxv ha h1.2.1,qno ha h1.1,λi hi=>?_,h2⟩;have:=yf.1 h1.2.2 i Q8U;obtain⟨x,hx,e⟩:=List.any_eq_true.1 this;obtain⟨t,ht,rfl⟩:=xE.1 hx;obtain⟨k,hk⟩:=List.getElem?_of_mem ht;exact⟨k,t,hk,by simpa using e⟩
 | (m,seg)::rest,sl,st,A,h,S,hS,ha=>by
  unfold planK at h;rw[qb0] at h;split at h
  .rename_i om hm;obtain⟨hgd,h⟩:=qvq h
   .rw[qb0] at h;split at h
    .rename_i hs;obtain⟨q,hC,hM⟩:=qxs hG hs h;subst hS;simp only[jm2,xp,List.map_map] at hC;refine⟨om,q,hm,hgd,λt e1 e2 e3=>?_,λi hi=>?_,λst₂ h1 h2=>?_⟩
     .have ha':∀c∈S++[t],ops[c.i]?=some c.o:=λc hc=>by
       rcases yJ.1 hc with hc|hc
       .exact ha c hc
       .obtain rfl:=yt.1 hc;rw[e1,e2];exact hm
      refine⟨qxv ha' ?_,qno ha' ?_⟩
      .have:=hC.2.1;simp only[zd,xq,yg,e1];exact this
      .have:=hC.1;simp only[zd,xq,yg,e1,e3];exact this
     .have:=yf.1 hC.2.2 i Q8U;simp only[y5] at this;rcases this with h|h|h
      .obtain⟨x,hx,e⟩:=List.any_eq_true.1 h;obtain⟨t,ht,rfl⟩:=xE.1 hx;obtain⟨k,hk⟩:=List.getElem?_of_mem ht;exact .inl ⟨k,t,hk,by simpa using e⟩
      .exact .inr (.inl Q9Y)
      .exact .inr (.inr h)
     .intro X ρ a w R next Q hn;refine hM st₂ h1 h2 X ρ a w R next Q λv ms ρ' x w' hF ha'=>hn v ms ρ' x w' ⟨hF.1,?_⟩ ha'
      have hk:=qce (K:=λsl'=>segK P G ops seg sl' (st.after om.dst v ms) _ _) (qen hF.2);obtain⟨S2,s2,sl2,g1,g2,g3,g4⟩:=qtm hG hk;refine⟨S2,s2,g2,g1,qpx hG g4 _ Q8P λt ht=>?_⟩;rcases yJ.1 ht with ht|ht
      .exact ha t ht
      .rcases xi.1 ht with rfl|ht
       .exact hm
       .exact g3 t ht
    .exact h.elim
  .exact h.elim
def jk6(P:Program)(G:Tys)(ops:List Oper)(K:List Nat->List (Nat×List Nat)->Prop):Prop:=∃L rest,qc5 ops 0=true/\K L rest
theorem Bu{K:List Nat->List (Nat×List Nat)->Prop}(L:List Nat)(rest:List (Nat×List Nat))(he:qc5 ops 0=Bool.true)(k:K L rest):N (jk6 P G ops K):=N.mk ⟨L,rest,he,k⟩
noncomputable def planA(P:Program)(G:Tys)(ops:List Oper)(sl:Nat)(st:St)(K:St->Prop):Prop:=
 N (jk6 P G ops λL rest=>segK P G ops L sl st [] λsl' st' A=>planK P G ops rest sl' st' A K)
theorem qpy{ops:Array Oper}(hG:jey P G){sl:Nat}{K:St->Prop}(h:planA P G ops.toList sl st K)(hq:∀s ρ a w,K s->Rel X ρ s a w->Q .normal a w)(R:Rel X ρ st a w):wpAny P .any ops Q ops.size (Array.replicate ops.size false) a w:=by
 obtain⟨L,rest,he,h1⟩:=N.out h;obtain⟨S,s,sl',g1,g2,g3,g4⟩:=qtm hG h1;have hP:=qpx hG g4 S Q8P g3;obtain⟨o1,o2⟩:=qtk hP;have h0:∀j,(Array.replicate ops.size false).getD j false=false:=λj=>Q4I
 refine qxq he hq rest S s hP o1 o2 g1 ops.size (List.range ops.size) _ ⟨by simp,List.nodup_range,by simp,λi hi=>?_,λi hi=>by simpa using hi,λj o _ h=>by rw[h0] at h;cases h⟩ (λk t hk hm=>?_) (λx _=>h0 _) ρ a w ?_
 .rw[h0];simp[hi]
 .rw[g2 t (xL hk)] at hm;cases hm
 .rw[qe4 _ 0 st λi _=>?_]
  .exact R
  .unfold DL;split
   .exact h0 _
   .rfl
def qtn:Nat->(Hp->Prop)->Prop
 | 0,K=>K []
 | n+1,K=>qtn n λr=>K (none::r)
def jjn:Hp->Nat->(Hp->Prop)->Prop
 | [],n,K=>qtn n K
 | x::r,n,K=>jjn r n λr'=>K (x::r')
def jgm:Hp->(Hp->Prop)->Prop
 | [],K=>K []
 | some c::r,K=>jgm r λr'=>K (some c::r')
 | none::r,K=>jgm r λr'=>match r' with
  | []=>K []
  | x::q=>K (none::x::q)
def q5b:List Oper->Nat
 | []=>1
 | o::os=>qcc o.op+q5b os
def SameH(h h':Hp):Prop:=∀(i:Nat)(c:Chunk),h'[i]?=some (some c)↔h[i]?=some (some c)
theorem qmm:∀{n:Nat}{K:Hp->Prop},qtn n K->∃h',SameH [] h'/\K h'
 | 0,K,h=>⟨[],λ_ _=>Iff.rfl,h⟩
 | n+1,K,h=>by
  obtain⟨h',hs,hk⟩:=qmm (n:=n) h;exact Q2X
theorem qto:∀{h:Hp}{n:Nat}{K:Hp->Prop},jjn h n K->∃h',SameH h h'/\K h'
 | [],n,K,h=>qmm h
 | x::r,n,K,h=>by
  obtain⟨h',hs,hk⟩:=qto (h:=r) (n:=n) h;exact Q2X
theorem qev:∀{h:Hp}{K:Hp->Prop},jgm h K->∃h',SameH h h'/\K h'
 | [],K,h=>⟨[],λ_ _=>Iff.rfl,h⟩
 | some x::r,K,h=>by
  obtain⟨h',hs,hk⟩:=qev (h:=r) h;exact Q2X
 | none::r,K,h=>by
  obtain⟨h',hs,hk⟩:=qev (h:=r) h;split at hk
  .refine⟨[],λi c=>?_,hk⟩;cases i with
   | zero=>simp
   | succ i=>simpa using hs i c
  .exact Q2X
theorem SameH.fil{h h':Hp}(s:SameH h h')(i:Nat):Fil h' i↔Fil h i:=⟨fun⟨c,hc⟩=>⟨c,(s i c).1 hc⟩,fun⟨c,hc⟩=>⟨c,(s i c).2 hc⟩⟩
theorem HOK.same{h h':Hp}(H:HOK X ρ h w)(s:SameH h h'):HOK X ρ h' w:=by
 refine⟨H.evo,λi hi=>⟨(s.fil i).2 (H.base i hi).1,(H.base i hi).2⟩,λi c hi=>H.lt i c ((s i c).1 hi),λi c hi j hj=>?_,λi c hi=>H.own i c ((s i c).1 hi),λi c j d hi ho hj=>H.sep i c j d ((s i c).1 hi) ho ((s j d).1 hj),?_⟩
 .obtain⟨x,hx,hd⟩:=H.cell i c ((s i c).1 hi) j hj;exact Q4X
 .obtain⟨S,E⟩:=H.ext;exact E.less λi c hi=>⟨rfl,c,(s i c).1 hi,nlr _,.inr rfl⟩
theorem Rel.same{h':Hp}(R:Rel X ρ st a w)(s:SameH st.h h'):Rel X ρ ⟨st.t,h'⟩ a w:=by
 refine⟨R.defers,R.size,λi v hi=>?_,R.heap.same s⟩;obtain⟨x,hx,hd⟩:=R.slot i v hi;exact Q4X
def jf6:List Oper->List Bool
 | []=>[]
 | _::r=>false::jf6 r
def jiz:List Bool->Bool
 | []=>true
 | b::r=>b&&jiz r
def mayB(listed:List Bool)(es:List Edge):Bool:=match es with
 | []=>true
 | e::r=>(!Region.binds .any e||(match jfz listed e.on with
  | some b=>b
  | none=>false))&&mayB listed r
def ji0:List Bool->Nat->(List Bool->Prop)->Prop
 | [],_,K=>K []
 | _::r,0,K=>K (true::r)
 | b::r,n+1,K=>ji0 r n λr'=>K (b::r')
def jhl(listed:List Bool)(F:Nat->Oper->Prop):List Oper->List Bool->Nat->Prop
 | o::os,b::bs,k=>match !b&&mayB listed o.after.toList with
  | true=>N (jfk k (λk=>F k o)/\jhl listed F os bs (k+1))
  | false=>jhl listed F os bs (k+1)
 | _,_,_=>N True
def wpX(P:Program)(G:Tys)(ops:List Oper):Nat->List Bool->Nat->St->(St->Prop)->Prop
 | 0,listed,_,st,K=>match jiz listed with
  | true=>K st
  | false=>False
 | fuel+1,listed,sl,st,K=>match jiz listed with
  | true=>K st
  | false=>jhl listed (λk o=>match st with
   | ⟨t0,h0⟩=>match jfz h0 sl with
    | some none=>match o.guard with
     | none=>jgj P G o ⟨t0,h0⟩ sl λv ms _=>qdo ⟨t0,h0⟩ o.dst v ms λst'=>jfk (sl+qcc o.op) λsl'=>ji0 listed k λlisted'=>wpX P G ops fuel listed' sl' st' K
     | some _=>False
    | _=>False) ops listed 0
theorem qtp:∀{l:List Bool},jiz l=true->∀i,i<l.length->l[i]?=some true
 | [],_,i,hi=>by simp at hi
 | b::r,h,i,hi=>by
  have h:(b&&jiz r)=true:=h;simp only[xp] at h;cases i with
  | zero=>simp[h.1]
  | succ i=>
   show r[i]?=some true;exact qtp (l:=r) h.2 i (by simp only[yZ] at hi;omega)
theorem qxw:∀{l:List Bool},jiz l=false->∃i:Nat,l[i]?=some false
 | [],h=>by cases h
 | b::r,h=>by
  cases b with
  | false=>exact⟨0,rfl⟩
  | true=>
   have h:(true&&jiz r)=false:=h;obtain⟨i,hi⟩:=qxw (l:=r) Q9Y;exact⟨i+1,by simpa using hi⟩
theorem qpz:∀{l:List Bool}{n:Nat}{K:List Bool->Prop},ji0 l n K->K (l.set n true)
 | [],n,K,h=>h
 | b::r,0,K,h=>h
 | b::r,n+1,K,h=>qpz (l:=r) (n:=n) h
theorem qxx{listed:List Bool}:∀{es:List Edge},(∀e∈es,Region.binds .any e=true->listed[e.on]?=some true)->mayB listed es=true
 | [],_=>rfl
 | e::r,h=>by
  have h1:=qxx (es:=r) λx hx=>h x (yI _ hx)
  grind[mayB,qb0]
theorem qp0{listed:List Bool}{F:Nat->Oper->Prop}:∀{os:List Oper}{bs:List Bool}{k:Nat},jhl listed F os bs k->∀(j:Nat)(o:Oper),os[j]?=some o->bs[j]?=some false->mayB listed o.after.toList=true->F (k+j) o
 | [],_,_,_,j,o,hj,_,_=>by simp at hj
 | o::os,[],_,_,j,_,_,hb,_=>by simp at hb
 | o::os,b::bs,k,h,j,o',hj,hb,hm=>by
  unfold jhl at h;cases j with
  | zero=>
   simp only[yQ,Option.some.injEq] at hj hb;subst hj hb;rw[show(!false&&mayB listed o.after.toList)=true by rw[hm];rfl] at h;exact qce (K:=λk=>F k o) h.out.1
  | succ j=>
   have h':jhl listed F os bs (k+1):=by
    split at h
    .exact h.out.2
    .exact h
   have:=qp0 h' j o' Q8V (by simpa using hb) hm
   grind
theorem qji:∀{l:List Oper},(jf6 l).length=l.length
 | []=>rfl
 | _::r=>by show(jf6 r).length+1=_;rw[qji];rfl
theorem qmn:∀{l:List Oper}{i:Nat},i<l.length->(jf6 l)[i]?=some false
 | [],i,h=>by simp at h
 | _::r,0,_=>rfl
 | _::r,i+1,h=>by
  show(jf6 r)[i]?=some false;exact qmn (l:=r) (i:=i) (by simp only[yZ] at h;omega)
theorem q6t{ops:Array Oper}(hG:jey P G)(he:qc5 ops.toList 0=true){K:St->Prop}(hq:∀s ρ a w,K s->Rel X ρ s a w->Q .normal a w):
  ∀(fuel:Nat)(listed:List Bool)(sl:Nat)(st:St),wpX P G ops.toList fuel listed sl st K->listed.length=ops.size->∀ρ a w,Rel X ρ st a w->wpAny P .any ops Q fuel listed.toArray a w:=by
 have full:∀{listed:List Bool},jiz listed=true->listed.length=ops.size->Region.ready .any ops listed.toArray=[]:=λ{listed} h hl=>by
  apply List.eq_nil_iff_forall_not_mem.2
  intro j hj
  obtain⟨o,h1,h2,_⟩:=qik (listed:=listed.toArray) Q91 hj
  have hlt:=(xY.1 h1).1
  have:=qtp h j Q8E
  simp_all
 have open_:∀{listed:List Bool},jiz listed=false->listed.length=ops.size->Region.ready .any ops listed.toArray≠[]:=λ{listed} h hl hr=>by
  obtain⟨i,hi⟩:=qxw h
  have hlt:=(xg.1 hi).1
  have:=qtj he (listed:=listed.toArray) Q91 hr i Q8E
  simp_all
 intro fuel
 induction fuel with
 | zero=>
  intro listed sl st h hl ρ a w R;unfold wpX at h;split at h
  .rename_i hb;exact⟨full hb hl,hq _ _ _ _ h R⟩
  simp_all
 | succ fuel ih=>
  intro listed sl st h hl ρ a w R;unfold wpX at h;split at h
  .rename_i hb;refine⟨λ_=>hq _ _ _ _ h R,λi hi=>?_⟩;simp_all
  .rename_i hb;refine⟨λhr=>absurd hr (open_ hb hl),λi hi=>?_⟩;obtain⟨o,h1,h2,h3⟩:=qik (listed:=listed.toArray) Q91 hi;have hlt:=(xY.1 h1).1;have hfi:listed[i]?=some false:=by
    simp_all
   have hF:=qp0 h i o (by simpa using h1) hfi (qxx λe hee hbe=>by
    have:=h3 e hee hbe;simp only[yP,List.getElem?_toArray] at this
    grind)
   rw[xr] at hF;obtain⟨t0,h0⟩:=st;simp only at hF;rw[qb0] at hF;split at hF
   .rename_i hs;split at hF
    .rename_i hg;obtain⟨v,ms,rh,hok,hk⟩:=qif hG hs hF;have hk:=qpz (qce (K:=λsl'=>ji0 listed i λlisted'=>wpX P G ops.toList fuel listed' sl' _ K) (qen hk));unfold wpOp;rw[h1];have hw:Region.wanted o (yielded ops a.tmps)=true:=by
      unfold Region.wanted;rw[hg]
     simp only;rw[if_pos hw];refine .inl (hok.here X ρ a w R _ _ λρ' x w' ha=>?_);have hset:listed.toArray.setIfInBounds i true=(listed.set i true).toArray:=by simp
     rw[hset];exact ih _ _ _ hk Q91 ρ' _ _ (qfl R ha)
    simp_all
   simp_all
def jpp(P:Program)(G:Tys)(ops:List Oper)(sl:Nat)(st:St)(K:St->Prop):Prop:=
 qc5 ops 0=true/\∃s0:St,wpX P G ops ops.length (jf6 ops) sl st (λs=>match s with
  | ⟨t,h1⟩=>jgm h1 λh'=>N ((⟨t,h'⟩:St)=s0))/\K s0
noncomputable def regK(P:Program)(G:Tys)(ops:Array Oper)(draw:Bool)(st:St)(K:St->Prop):Prop:=
 match st with
 | ⟨t0,h0⟩=>jjn h0 (q5b ops.toList) λh=>jfk h0.length λsl=>match draw with
  | false=>wpQ P G ops.toList ops.toList sl ⟨t0,h⟩ λs=>match s with
   | ⟨t,h1⟩=>jgm h1 λh'=>K ⟨t,h'⟩
  | true=>match jlz ops.toList with
   | false=>match entB ops.toList with
    | false=>jm1 (callB ops.toList) (wpR P G ops.toList ops.toList sl ⟨t0,h⟩ [] λs acc=>match s with
      | ⟨t,h1⟩=>jgm h1 λh'=>N (Obl (qpt ops.toList acc.reverse=true/\qc5 ops.toList 0=true) (K ⟨t,h'⟩)))
     (planA P G ops.toList sl ⟨t0,h⟩ λs=>match s with
      | ⟨t,h1⟩=>jgm h1 λh'=>K ⟨t,h'⟩)
    | true=>N (jpp P G ops.toList sl ⟨t0,h⟩ K)
   | true=>planA P G ops.toList sl ⟨t0,h⟩ λs=>match s with
    | ⟨t,h1⟩=>jgm h1 λh'=>K ⟨t,h'⟩
section
variable{P:Program}{G:Tys}
variable{st:St}{Q:Exit->Act->World->Prop}{ρ:Rz}{a:Act}{w:World}
theorem q6u{ops:Array Oper}{draw:Bool}{K:St->Prop}{id:Nat}{X:Ctx}(hG:jey P G)(hm:P.follows .mixedOrders=true)(h:regK P G ops draw st K)(hq:∀s ρ a w,K s->Rel X ρ s a w->Q .normal a w)(R:Rel X ρ st a w):
  (Code.region id ops draw).wp P Q a w:=by
 obtain⟨t0,h0⟩:=st
 obtain⟨h1,hs1,h⟩:=qto h
 have R1:=R.same hs1
 cases draw with
 | false=>
  have h:=qce (K:=λsl=>wpQ P G ops.toList ops.toList sl ⟨t0,h1⟩ _) h;refine wp_region ?_;rw[List.range_eq_range'];refine qxk (X:=X) hG (λs ρ a w hk R'=>?_) ops.toList _ 0 _ h (λi _=>by simp) ρ a w R1;exact Q4u
 | true=>
  have h:=qce (K:=λsl=>match jlz ops.toList with
   | false=>match entB ops.toList with
    | false=>jm1 (callB ops.toList) (wpR P G ops.toList ops.toList sl ⟨t0,h1⟩ [] _) (planA P G ops.toList sl ⟨t0,h1⟩ _)
    | true=>N (jpp P G ops.toList sl ⟨t0,h1⟩ K)
   | true=>planA P G ops.toList sl ⟨t0,h1⟩ _) h
  split at h
  .split at h
   .rcases q12 h with h|h
    .obtain⟨rs,s,ht,h⟩:=qnj hG h;obtain⟨t2,h3⟩:=s;obtain⟨h2,hs2,h⟩:=qev h;obtain⟨⟨hc,he⟩,h⟩:=h.out;refine wp_region_any hm ?_;have hc':qpt ops.toList (feet rs)=true:=by simpa using hc
     refine qxl (X:=X) (st':=⟨t2,h3⟩) (ρ:=ρ) ht hc' he (λρ a w R'=>hq _ ρ a w h (R'.same hs2)) ?_;exact⟨R1.defers,R1.size,R1.slot,R1.heap.drew⟩
    .exact Q31
   .obtain⟨he,s0,h,k0⟩:=h.out;refine wp_region_any hm ?_;have:=q6t (X:=X) (ops:=ops) hG he (Q:=Q) (K:=λs=>match s with
     | ⟨t,h1⟩=>jgm h1 λh'=>N ((⟨t,h'⟩:St)=s0)) (λs ρ a w hk R'=>by
      obtain⟨t2,h3⟩:=s;obtain⟨h2,hs2,hk⟩:=qev hk;have hk:=hk.out;subst hk;exact hq _ ρ a w k0 (R'.same hs2)) _ _ _ _ h (by rw[qji];simp) ρ a _ ⟨R1.defers,R1.size,R1.slot,R1.heap.drew⟩
    have hfa:(jf6 ops.toList).toArray=Array.replicate ops.size false:=by
     apply zn
     grind[qmn,qji]
    simp_all
  .exact Q31
def jjo(F:Nat->Prop)(v:Value):Prop:=∀ρ ρ',AgreeOn F ρ ρ'->den ρ' v=den ρ v
def qxy(F:Nat->Prop)(v:Value):Prop:=∀ρ ρ',AgreeOn F ρ ρ'->den1 ρ' v=den1 ρ v
structure Wk(n0:Nat)(st s:St):Prop where
 len:s.t.length=st.t.length
 slot:∀(i:Nat)(v:Value),s.t[i]?=some (some v)->st.t[i]?=some (some v)
 chunk:∀(i:Nat)(c:Chunk),s.h[i]?=some (some c)->∃d,st.h[i]?=some (some d)/\(c.own=true->d.own=true)/\c.n<=d.n/\(∀j,j<c.n->c.f j=d.f j)/\(c.x=Ext.none\/c.x=d.x)
 base:∀i,i<n0->Fil st.h i->Fil s.h i
 scope:(∀i,Fil st.h i->Fil s.h i)\/((∀(i:Nat)(v:Value),s.t[i]?=some (some v)->jjo (Fil s.h) v)/\∀(i:Nat)(c:Chunk),s.h[i]?=some (some c)->∀j,j<c.n->qxy (Fil s.h) (c.f j))
theorem Wk.refl(n0:Nat)(st:St):Wk n0 st st:=⟨rfl,λ_ _ h=>h,λi c h=>⟨c,h,id,nlr _,λ_ _=>rfl,.inr rfl⟩,λ_ _ h=>h,.inl λ_ h=>h⟩
theorem Wk.rel{X:Ctx}{s:St}(h:Wk X.n0 st s)(R:Rel X ρ st a w):Rel X ρ s a w:=by
 have fil:∀i,Fil s.h i->Fil st.h i:=λi ⟨c,hc⟩=>by obtain⟨d,hd,_⟩:=h.chunk i c hc;exact⟨d,hd⟩
 refine⟨R.defers,R.size.trans h.len.symm,λi v hi=>?_,R.heap.evo,λi hi=>⟨h.base i hi (R.heap.base i hi).1,(R.heap.base i hi).2⟩,λi c hi=>?_,λi c hi j hj=>?_,λi c hi ho j hj=>?_,λi c j d hi ho hj hne=>?_,?_⟩
 .obtain⟨x,hx,hd⟩:=R.slot i v (h.slot i v hi);refine⟨x,hx,?_⟩;rcases h.scope with hs|⟨hs,_⟩
  .exact hd.more (AgreeOn.refl _ _) hs
  .exact λr hr=>(hs i v hi ρ r hr).trans hd.self
 .obtain⟨d,hd,_⟩:=h.chunk i c hi;exact R.heap.lt i d hd
 .obtain⟨d,hd,_,hn,hf,_⟩:=h.chunk i c hi;obtain⟨x,hx,hxd⟩:=R.heap.cell i d hd j (xl hj hn);refine⟨x,hx,?_⟩;rcases h.scope with hs|⟨_,hs⟩
  .rw[hf j hj];exact hxd.more (AgreeOn.refl _ _) hs
  .exact λr hr=>(hs i c hi j hj ρ r hr).trans (by rw[hf j hj];exact hxd.self)
 .obtain⟨d,hd,hod,hn,hf,_⟩:=h.chunk i c hi;exact R.heap.own i d hd (hod ho) j (xl hj hn)
 .obtain⟨c',hc',hoc,_⟩:=h.chunk i c hi;obtain⟨d',hd',_⟩:=h.chunk j d hj;exact R.heap.sep i c' j d' hc' (hoc ho) hd' hne
 .obtain⟨S,E⟩:=R.heap.ext;exact E.less λi c hi=>by
   obtain⟨d,hd,_,hn,_,hx⟩:=h.chunk i c hi;simp_all
def Wkg(n0:Nat)(st s:St):Prop:=∀(X:Ctx)(ρ:Rz)(a:Act)(w:World),X.n0=n0->Rel X ρ st a w->∃ρ',Rel X ρ' s a w
theorem Wk.g{n0:Nat}{s:St}(h:Wk n0 st s):Wkg n0 st s:=λX ρ a w hn R=>⟨ρ,by subst hn;exact h.rel R⟩
def thenQ(K:St->Prop)(Q:Exit->St->Prop):Exit->St->Prop
 | .normal,st=>K st
 | e,st=>Q e st
def q5c(id:Nat)(Q:Exit->St->Prop):Exit->St->Prop
 | .exit i,st=>match Nat.beq i id with
  | true=>Q .normal st
  | false=>Q (.exit i) st
 | e,st=>Q e st
def Lift(X:Ctx)(Q:Exit->St->Prop):Exit->Act->World->Prop:=λe a w=>∃ρ s,Rel X ρ s a w/\Q e s
def jk7(P:Program)(n0:Nat)(c:Code)(Q:Exit->St->Prop)(st:St):Prop:=∀X:Ctx,X.n0=n0->∀ρ a w,Rel X ρ st a w->c.wp P (Lift X Q) a w
def qxz(Q:Exit->St->Prop):Exit->St->Prop
 | .goto _,_=>False
 | e,st=>Q e st
def jm3(P:Program)(n0:Nat)(c:Code)(l:Nat)(Q:Exit->St->Prop)(st:St):Prop:=
 ∃(α:Type)(mk:Nat->α->St)(μ:Nat->α->Nat)(ok:Nat->α->Prop)(nx:Nat->α->Nat->St->Prop),(∀l x l' s,nx l x l' s->∃y,ok l' y/\Wkg n0 s (mk l' y)/\μ l' y<μ l x)/\(∃x,ok l x/\Wkg n0 st (mk l x))/\∀l x,ok l x->∃r,findLabel c l=some r/\jk7 P n0 r (λe s=>match e with|.goto l'=>nx l x l' s|e=>Q e s) (mk l x)
def jjz(P:Program)(n0:Nat)(c r:Code)(l:Nat)(Q:Exit->St->Prop)(st:St):Prop:=jk7 P n0 r (qxz Q) st\/jm3 P n0 c l Q st
def q5d(P:Program)(n0:Nat)(c:Code)(Q:Exit->St->Prop):Exit->St->Prop
 | .goto l,st=>match findLabel c l with
  | some r=>N (jjz P n0 c r l Q st)
  | none=>False
 | e,st=>Q e st
def qry(P:Program)(c:Code)(l:Nat)(Q:Exit->Act->World->Prop)(a:Act)(w:World):Prop:=
 ∀(b:Frame)(k:List Item)(cs:List Frame),∃r e a' w',findLabel c l=some r/\Q e a' w'/\Arrives P (lone (b.at a (.code r :: .inScope c::k)) cs w) b k cs e a' w'
variable{c:Code}
theorem qp1{P:Program}{r:Code}{l:Nat}(hf:findLabel c l=some r)(hr:r.wp P (Exit.noGoto Q) a w):qry P c l Q a w:=λb k cs=>by
 obtain⟨e₂,a₂,w₂,hq₂,harr₂⟩:=hr b (.inScope c::k) cs;cases e₂ with
 | normal=>exact⟨r,.normal,a₂,w₂,hf,hq₂,Steps.trans harr₂ (.one step_inScope)⟩
 | exit id=>exact⟨r,.exit id,a₂,w₂,hf,hq₂,λk' hk=>harr₂ k' (by simp[exitTo,hk])⟩
 | goto l=>exact hq₂.elim
 | ret=>exact⟨r,_,a₂,w₂,hf,hq₂,harr₂⟩
 | panic ch=>exact⟨r,_,a₂,w₂,hf,hq₂,harr₂⟩
 | outgrown=>exact⟨r,_,a₂,w₂,hf,hq₂,harr₂⟩
theorem qp2{P:Program}{α:Type}(J:Nat->α->Act->World->Prop)(μ:Nat->α->Nat)
  (hJ:∀l x a w,J l x a w->∃r,findLabel c l=some r/\r.wp P (λe a' w'=>match e with|.goto l'=>∃y,J l' y a' w'/\μ l' y<μ l x|e=>Q e a' w') a w):∀(n l:Nat)(x:α)(a:Act)(w:World),μ l x<n->J l x a w->qry P c l Q a w:=by
 intro n
 induction n with
 | zero=>intro l x a w h;exact absurd h (xX _)
 | succ n ih=>
  intro l x a w hn hj b k cs;obtain⟨r,hf,hr⟩:=hJ l x a w hj;obtain⟨e₂,a₂,w₂,hq₂,harr₂⟩:=hr b (.inScope c::k) cs;cases e₂ with
  | normal=>exact⟨r,.normal,a₂,w₂,hf,hq₂,Steps.trans harr₂ (.one step_inScope)⟩
  | exit id=>exact⟨r,.exit id,a₂,w₂,hf,hq₂,λk' hk=>harr₂ k' (by simp[exitTo,hk])⟩
  | goto l'=>
   obtain⟨y,hy,hlt⟩:=hq₂;obtain⟨r₂,e₃,a₃,w₃,hf₂,hq₃,harr₃⟩:=ih l' y a₂ w₂ Q8E hy b k cs;have hg:gotoIn l' (.inScope c::k)=some (.code r₂ :: .inScope c::k):=by simp[gotoIn,hf₂]
   exact⟨r,e₃,a₃,w₃,hf,hq₃,.of_steps (harr₂ _ hg) harr₃⟩
  | ret=>exact⟨r,_,a₂,w₂,hf,hq₂,harr₂⟩
  | panic ch=>exact⟨r,_,a₂,w₂,hf,hq₂,harr₂⟩
  | outgrown=>exact⟨r,_,a₂,w₂,hf,hq₂,harr₂⟩
theorem qp3{P:Program}(h:c.wp P (λe a w=>match e with
  | .goto l=>qry P c l Q a w
  | e=>Q e a w) a w):(Code.scope c).wp P Q a w:=by
 intro b k cs
 obtain⟨e,a₁,w₁,hq,harr⟩:=h b (.inScope c::k) cs
 cases e with
 | normal=>exact⟨.normal,a₁,w₁,hq,.head step_scope (Steps.trans harr (.one step_inScope))⟩
 | exit id=>exact⟨.exit id,a₁,w₁,hq,λk' hk=>.head step_scope (harr k' (by simp[exitTo,hk]))⟩
 | goto l=>
  obtain⟨r,e₂,a₂,w₂,hf,hq₂,harr₂⟩:=hq b k cs;have hg:gotoIn l (.inScope c::k)=some (.code r :: .inScope c::k):=by simp[gotoIn,hf]
  exact⟨e₂,a₂,w₂,hq₂,.of_steps (Steps.trans (Steps.one step_scope) (harr _ hg)) harr₂⟩
 | ret=>exact⟨_,a₁,w₁,hq,.of_steps (.one step_scope) harr⟩
 | panic ch=>exact⟨_,a₁,w₁,hq,.of_steps (.one step_scope) harr⟩
 | outgrown=>exact⟨_,a₁,w₁,hq,.of_steps (.one step_scope) harr⟩
def jhm(P:Program)(G:Tys)(n0:Nat)(c:Code)(B:(Exit->St->Prop)->St->Prop)(Q:Exit->St->Prop)(st:St):Prop:=
 ∃(α:Type)(mk:α->St)(inv:α->Prop)(μ:α->Nat)(nx:α->St->Prop),(∀x s,nx x s->∃y,inv y/\Wkg n0 s (mk y)/\μ y<μ x)/\(∃x,inv x/\Wkg n0 st (mk x))/\∀x,inv x->B (thenQ (nx x) Q) (mk x)
abbrev jfx:=(Exit->St->Prop)->St->Prop
def jm4(A B:jfx):jfx:=λQ st=>A (thenQ (B Q) Q) st
def qx0(c:Operand)(A B:jfx):jfx:=λQ st=>
 match st with
 | ⟨t0,h0⟩=>match c with
  | .tmp t=>jit t0 t λg=>match g with
   | .bool b=>N (jis b (jh2 t0 t (.bool true) λl=>A Q ⟨l,h0⟩) (jh2 t0 t (.bool false) λl=>B Q ⟨l,h0⟩))
   | _=>False
  | .const (.bool true)=>A Q ⟨t0,h0⟩
  | .const (.bool false)=>B Q ⟨t0,h0⟩
  | _=>False
def q6v(id:Nat)(A:jfx):jfx:=λQ st=>A (q5c id Q) st
def ja0(P:Program)(G:Tys)(n0:Nat)(c:Code)(A:jfx):jfx:=λQ st=>N (jhm P G n0 c A Q st)
def q6w(P:Program)(n0:Nat)(c:Code)(A:jfx):jfx:=λQ st=>A (q5d P n0 c Q) st
noncomputable def wpC(P:Program)(G:Tys)(n0:Nat)(c:Code):jfx:=
 Code.rec (motive:=λ_=>jfx) (λQ st=>Q .normal st) (λ_ ops draw Q st=>regK P G ops draw st (Q .normal)) (λ_ _ A B=>jm4 A B) (λc _ _ A B=>qx0 c A B) (λid _ A=>q6v id A) (λc A=>ja0 P G n0 c A)
  (λ_ _ _ _ _ _ _ _=>False) (λid Q st=>Q (.exit id) st) (λc A=>q6w P n0 c A) (λ_ Q st=>Q .normal st) (λl Q st=>Q (.goto l) st) (λQ st=>Q .ret st) (λ_ _ _=>False) c
theorem qrz(hG:jey P G)(hm:P.follows .mixedOrders=true)(X:Ctx):∀(c:Code)(Q:Exit->St->Prop)(st:St),wpC P G X.n0 c Q st->∀ρ a w,Rel X ρ st a w->c.wp P (Lift X Q) a w:=by
 intro c
 induction c with
 | skip=>exact λQ st h ρ a w R=>wp_skip ⟨ρ,st,R,h⟩
 | label l=>exact λQ st h ρ a w R=>wp_label ⟨ρ,st,R,h⟩
 | region id ops draw=>exact λQ st h ρ a w R=>q6u (X:=X) hG hm h (λs ρ a w hk R'=>⟨ρ,s,R',hk⟩) R
 | seq x y ihx ihy=>
  intro Q st h ρ a w R;refine wp_seq (wp_mono (ihx _ _ h ρ a w R) ?_);rintro e a' w' ⟨ρ',s,R',hq⟩;cases e with
  | normal=>exact ihy Q s hq ρ' a' w' R'
  | _=>exact⟨ρ',s,R',hq⟩
 | cond c x y ihx ihy=>
  intro Q st h ρ a w R;obtain⟨t0,h0⟩:=st;cases c with
  | tmp t=>
   have h:qx0 (.tmp t) (wpC P G X.n0 x) (wpC P G X.n0 y) Q ⟨t0,h0⟩:=h;unfold qx0 at h;simp only at h;obtain⟨g,hg,h⟩:=qef (l:=t0) (n:=t) h;split at h
   .rename_i b;obtain⟨z,hz,hzd⟩:=R.slot t _ hg;have hzb:z=.bool b:=hzd.self.symm;have he:a.eval (.tmp t)=.bool b:=by simp[Act.eval,yP,hz,hzb]
    have h:=h.out;refine wp_cond_split he (λe=>?_) (λe=>?_)
    .subst e;have h:=qeg (K:=λl=>wpC P G X.n0 x Q ⟨l,h0⟩) (h.1 rfl);rw[qg5 hg] at h;exact ihx Q ⟨t0,h0⟩ h ρ a w R
    .subst e;have h:=qeg (K:=λl=>wpC P G X.n0 y Q ⟨l,h0⟩) (h.2 rfl);rw[qg5 hg] at h;exact ihy Q ⟨t0,h0⟩ h ρ a w R
   .exact h.elim
  | const v=>
   cases v with
   | bool b=>
    cases b with
    | true=>exact wp_cond_true rfl (ihx Q ⟨t0,h0⟩ h ρ a w R)
    | false=>exact wp_cond_false rfl (ihy Q ⟨t0,h0⟩ h ρ a w R)
   | _=>exact h.elim
  | _=>exact h.elim
 | block id c ih=>
  intro Q st h ρ a w R;refine wp_block (wp_mono (ih _ _ h ρ a w R) ?_);rintro e a' w' ⟨ρ',s,R',hq⟩;cases e with
  | exit i=>
   simp only[q5c] at hq;simp only[Exit.inBlock];cases hb:Nat.beq i id with
   | true=>
    rw[hb] at hq;have:=xN hb;rw[if_pos this];exact⟨ρ',s,R',hq⟩
   | false=>
    rw[hb] at hq;have:i≠id:=λe=>by subst e;rw[Nat.beq_refl] at hb;cases hb
    rw[if_neg this];exact⟨ρ',s,R',hq⟩
  | _=>exact⟨ρ',s,R',hq⟩
 | loop c ih=>
  intro Q st h ρ a w R;obtain⟨α,mk,inv,μ,nx,hnx,⟨x0,hx0,hw0⟩,hr⟩:=N.out h;intro b k cs;have key:∀n x ρ a w,μ x=n->inv x->Rel X ρ (mk x) a w->
    ∃e a' w',Lift X Q e a' w'/\Arrives P (lone (b.at a (.code c :: .inLoop c::k)) cs w) b k cs e a' w':=by
   intro n
   induction n using Nat.strongRecOn with
   | _ n ihn=>
    intro x ρ a w hn hx R;obtain⟨e,a₁,w₁,⟨ρ₁,s,R₁,hq⟩,harr⟩:=ih _ _ (hr x hx) ρ a w R b (.inLoop c::k) cs;cases e with
    | normal=>
     obtain⟨y,hy,hwk,hlt⟩:=hnx _ _ hq;obtain⟨ρ₂,R₂⟩:=hwk X ρ₁ a₁ w₁ rfl R₁;obtain⟨e₂,a₂,w₂,hq₂,harr₂⟩:=ihn (μ y) (hn▸hlt) y ρ₂ a₁ w₁ rfl hy R₂;exact⟨e₂,a₂,w₂,hq₂,.of_steps (Steps.trans harr (.one step_inLoop)) harr₂⟩
    | exit id=>exact⟨_,a₁,w₁,⟨ρ₁,s,R₁,hq⟩,.pass (x:=.inLoop c) rfl (λ_ _=>.inl Q8P) harr⟩
    | goto l=>exact⟨_,a₁,w₁,⟨ρ₁,s,R₁,hq⟩,.pass (x:=.inLoop c) rfl (λ_ _=>.inl Q8P) harr⟩
    | ret=>exact⟨_,a₁,w₁,⟨ρ₁,s,R₁,hq⟩,.pass (x:=.inLoop c) rfl (λ_ _=>.inl Q8P) harr⟩
    | panic ch=>exact⟨_,a₁,w₁,⟨ρ₁,s,R₁,hq⟩,.pass (x:=.inLoop c) rfl (λ_ _=>.inl Q8P) harr⟩
    | outgrown=>exact⟨_,a₁,w₁,⟨ρ₁,s,R₁,hq⟩,.pass (x:=.inLoop c) rfl (λ_ _=>.inl Q8P) harr⟩
  obtain⟨ρ₀,R₀⟩:=hw0 X ρ a w rfl R;obtain⟨e,a',w',hq,harr⟩:=key _ x0 ρ₀ a w rfl hx0 R₀;exact⟨e,a',w',hq,.of_steps (.one step_loop) harr⟩
 | exit id=>exact λQ st h ρ a w R=>wp_exit ⟨ρ,st,R,h⟩
 | scope c ih=>
  intro Q st h ρ a w R;refine qp3 (wp_mono (ih _ _ h ρ a w R) ?_);rintro e a' w' ⟨ρ',s,R',hq⟩;cases e with
  | goto l=>
   simp only[q5d] at hq;split at hq
   .rename_i r hr;rcases N.out hq with hq|⟨α,mk,μ,ok,nx,hn,⟨x0,hx0,hw0⟩,hall⟩
    .refine qp1 hr (wp_mono (hq X rfl ρ' a' w' R') ?_);rintro e a2 w2 ⟨ρ2,s2,R2,hq2⟩;cases e with
     | goto l=>exact hq2.elim
     | _=>exact⟨ρ2,s2,R2,hq2⟩
    .obtain⟨ρ₀,R₀⟩:=hw0 X ρ' a' w' rfl R';refine qp2 (λl x a w=>ok l x/\∃ρ,Rel X ρ (mk l x) a w) μ (λl x a w hj=>?_) _ l x0 a' w' (Nat.lt_succ_self _) ⟨hx0,ρ₀,R₀⟩;obtain⟨hok,ρ1,R1⟩:=hj;obtain⟨r1,hf1,hr1⟩:=hall l x hok;refine⟨r1,hf1,wp_mono (hr1 X rfl ρ1 a w R1) ?_⟩;rintro e a2 w2 ⟨ρ2,s2,R2,hq2⟩;cases e with
     | goto l'=>
      obtain⟨y,hy,hwy,hlt⟩:=hn _ _ _ _ hq2;obtain⟨ρ3,R3⟩:=hwy X ρ2 a2 w2 rfl R2;exact⟨y,⟨hy,ρ3,R3⟩,hlt⟩
     | _=>exact⟨ρ2,s2,R2,hq2⟩
   .exact hq.elim
  | _=>exact⟨ρ',s,R',hq⟩
 | goto l=>exact λQ st h ρ a w R=>wp_goto ⟨ρ,st,R,h⟩
 | ret=>exact λQ st h ρ a w R=>wp_ret ⟨ρ,st,R,h⟩
 | _=>exact λQ st h=>h.elim
theorem N.goto{n0:Nat}{r:Code}{l:Nat}{Q:Exit->St->Prop}(hG:jey P G)(hm:P.follows .mixedOrders=true)(h:wpC P G n0 r (qxz Q) st):N (jjz P n0 c r l Q st):=N.mk (.inl λX hX ρ a w R=>by
 subst hX;exact qrz hG hm X r (qxz Q) st h ρ a w R)
end
open Go Go.RowKit
abbrev jml:=St->(List Value->Prop)->Prop
def jm5(G:Tys)(r:ResultVar)(ih:jml):jml:=λst K=>
 match st with
 | ⟨t0,h0⟩=>match r with
  | .tmp t=>jit t0 t λv=>ih ⟨t0,h0⟩ λvs=>K (v::vs)
  | .cell t ty=>jit t0 t λp=>match p with
   | .pointer (some ⟨i,f,some s⟩)=>jgo h0 i λc=>jeq G ty λti d=>jh6 c f s (qd2 d) ti.size λv=>ih ⟨t0,h0⟩ λvs=>K (v::vs)
   | _=>False
noncomputable def resK(G:Tys)(rs:List ResultVar):jml:=List.rec (motive:=λ_=>jml) (λ_ K=>K []) (λr _ ih=>jm5 G r ih) rs
def tup2(v:Value):Bool:=
 match v with
 | .tuple _=>false
 | _=>true
noncomputable def retK(P:Program)(G:Tys)(rs:List ResultVar)(st:St)(K:Value->Prop):Prop:=
 resK G rs st λvs=>match vs with
  | [v]=>K v
  | vs=>match vs.all tup2 with
   | true=>K (.tuple ⟨vs⟩)
   | false=>False
section
variable{P:Program}{G:Tys}
variable{ρ:Rz}
theorem qr0{X:Ctx}{st:St}{a:Act}{w:World}{t:TypeId}{i f s:Nat}{c:Chunk}{ti:TypeInfo}{d:TypeDesc}{v x:Value}(R:Rel X ρ st a w)(hx:Den (Fil st.h) ρ (.pointer (some ⟨i,f,some s⟩)) x)(hi:st.h[i]?=some (some c))
  (h1:P.info? t=some ti) (h2:P.underlying t=some d) (hr:Reads c f (qd2 d) ti.size v):∃y,(do loadVar t (<-asAddr x):Sem Value).run P w=.ok y w/\Den (Fil st.h) ρ v y:=by
 have hx':x=.pointer (some ⟨(ρ i).1,(ρ i).2+f,none⟩):=hx.self.symm
 cases hd:qd2 d with
 | false=>
  rw[hd] at hr;obtain⟨hl,hv,hf⟩:=hr;obtain⟨y,hy,hyd⟩:=R.heap.cell i c hi f hl;refine⟨y,?_,by rw[hf] at hyd;exact Den.of_one hyd hv⟩;simp only[hx',asAddr,loadVar,Sem.run_bind,Sem.run_pure,Result.andThen_ok,qdm h2,hd,xz,if_false,run_load,hy]
 | true=>
  rw[hd] at hr;obtain⟨hl,cs,rfl,hn,hf⟩:=hr;have hcell:∀j,(hj:j<cs.toList.length)->∃y,w.cell? ⟨(ρ i).1,(ρ i).2+(f+j),none⟩=some y/\Den1 (Fil st.h) ρ cs.toList[j] y:=λj hj=>by
   obtain⟨y,hy,hyd⟩:=R.heap.cell i c hi (f+j) Q8E
   grind
  have hcells:∀j v,(cs.toList.map (den1 ρ))[j]?=some v->w.cell? ((⟨(ρ i).1,(ρ i).2+f,none⟩:Addr).add j)=some v:=λj v hv=>by
   have hj:j<cs.toList.length:=by have:=(xg.1 hv).1;simpa using this
   rw[yl,xt hj] at hv;obtain⟨y,hy,hyd⟩:=hcell j hj;rw[qdn,yi,hy,<-hyd.self];exact hv
  have hlen:ti.size=(cs.toList.map (den1 ρ)).length:=by rw[yW,hn]
  refine⟨.agg (cs.map (den1 ρ)),?_,λr hr=>?_⟩
  .simp only[hx',asAddr,loadVar,Sem.run_bind,Sem.run_pure,Result.andThen_ok,qdm h2,hd,if_true,run_sizeOf h1];rw[hlen,run_loadCells_list _ _ _ hcells];simp only[Result.andThen_ok,Result.ok.injEq,Value.agg.injEq,and_true]
   grind
  .refine Q4A ?_;apply xF.1;rw[xJ,xJ];apply yp;intro u hu;obtain⟨j,hj,he⟩:=yF hu;obtain⟨y,hy,hyd⟩:=hcell j hj;rw[he] at hyd;rw[hyd r hr,hyd.self]
def resF(a:Act)(r:ResultVar):Sem Value:=
 match r with
 | .tmp t=>pure (a.tmps.getD t undef)
 | .cell p t=>do loadVar t (<-asAddr (a.tmps.getD p undef))
theorem qr1(hG:jey P G){t0:List (Option Value)}{h0:Hp}:∀{rs:List ResultVar}{K:List Value->Prop},resK G rs ⟨t0,h0⟩ K->∃vs,K vs/\∀X ρ a w,Rel X ρ ⟨t0,h0⟩ a w->∃xs,(rs.mapM (resF a):Sem (List Value)).run P w=.ok xs w/\All2 (Den (Fil h0) ρ) vs xs
 | [],K,h=>⟨[],h,λX ρ a w R=>⟨[],rfl,xb⟩⟩
 | .tmp t::r,K,h=>by
  obtain⟨v,hv,h⟩:=qef (l:=t0) (n:=t) h;obtain⟨vs,hk,hr⟩:=qr1 hG h;refine⟨_,hk,λX ρ a w R=>?_⟩;obtain⟨xs,hx,hd⟩:=hr X ρ a w R;obtain⟨y,hy,hyd⟩:=R.slot t v hv;refine⟨y::xs,?_,hyd,hd⟩;have hy':a.tmps.getD t undef=y:=by rw[yP,hy];rfl
  rw[List.mapM_cons,show resF a (.tmp t)=pure (a.tmps.getD t undef) from rfl,hy',Sem.run_bind,Sem.run_pure];simp_all
 | .cell t ty::r,K,h=>by
  obtain⟨p,hp,h⟩:=qef (l:=t0) (n:=t) h;split at h
  .obtain⟨c,hc,h⟩:=qb5 h;obtain⟨ti,d,h1,h2,h⟩:=qao hG h;obtain⟨v,hv,h⟩:=qpi h;obtain⟨vs,hk,hr⟩:=qr1 hG h;refine⟨_,hk,λX ρ a w R=>?_⟩;obtain⟨xs,hx,hd⟩:=hr X ρ a w R;obtain⟨z,hz,hzd⟩:=R.slot t _ hp;obtain⟨y,hy,hyd⟩:=qr0 (P:=P) R hzd hc h1 h2 hv;refine⟨y::xs,?_,hyd,hd⟩;have hz':a.tmps.getD t undef=z:=by rw[yP,hz];rfl
   rw[List.mapM_cons,show resF a (.cell t ty)=(do loadVar ty (<-asAddr (a.tmps.getD t undef)):Sem Value) from rfl,hz',Sem.run_bind,hy];simp_all
  simp_all
variable{fn:Func}
theorem qx1(hG:jey P G){st:St}{K:Value->Prop}(h:retK P G fn.results.toList st K):∃v,K v/\∀X ρ a w,Rel X ρ st a w->∃x,(results fn a.tmps).run P w=.ok x w/\Den (Fil st.h) ρ v x:=by
 obtain⟨t0,h0⟩:=st;obtain⟨vs,hk,hr⟩:=qr1 hG h;have key:∀X ρ a w,Rel X ρ ⟨t0,h0⟩ a w->∃xs:List Value,(results fn a.tmps).run P w=.ok (match xs with
   | [x]=>x
   | xs=>.tuple ⟨xs⟩) w/\All2 (Den (Fil h0) ρ) vs xs:=λX ρ a w R=>by
  obtain⟨xs,hx,hd⟩:=hr X ρ a w R
  refine⟨xs,?_,hd⟩
  have ef:results fn a.tmps=(do
    let vs <-fn.results.mapM (resF a)
    pure (if h:vs.size=1 then vs[0] else .tuple vs)):=rfl
  rw[ef,Array.mapM_eq_mapM_toList,Sem.run_bind,Sem.run_map,hx]
  simp only[Result.andThen_ok,Sem.run_pure]
  match xs with
  | []=>rfl
  | [x]=>rfl
  | x::y::r=>simp
 split at hk
 .rename_i v;refine⟨v,hk,λX ρ a w R=>?_⟩;obtain⟨xs,hx,hd⟩:=key X ρ a w R
  match xs,hd with
  | [x],hd=>exact⟨x,hx,hd.1⟩
  | [],hd=>exact hd.elim
  | _::_::_,hd=>exact hd.2.elim
 .rename_i hne;cases hb:vs.all tup2 with
  | false=>rw[hb] at hk;exact hk.elim
  | true=>
   rw[hb] at hk;refine⟨_,hk,λX ρ a w R=>?_⟩;obtain⟨xs,hx,hd⟩:=key X ρ a w R;refine⟨.tuple ⟨xs⟩,?_,?_⟩
   .rw[hx]
    match xs,vs,hd,hne with
    | [x],[v],_,hne=>exact absurd rfl (hne v)
    | [x],[],hd,_=>exact hd.elim
    | [x],_::_::_,hd,_=>exact hd.2.elim
    | [],_,_,_=>rfl
    | _::_::_,_,_,_=>rfl
   .intro r hr;have:∀(vs xs:List Value),vs.all tup2=true->All2 (Den (Fil h0) ρ) vs xs->vs.map (den2 r)=xs:=by
     intro vs
     induction vs with
     | nil=>intro xs _ h;cases xs with
      | nil=>rfl
      | cons _ _=>exact h.elim
     | cons v vs ih=>
      intro xs hb h;cases xs with
      | nil=>exact h.elim
      | cons x xs=>
       simp only[yq,xp] at hb;rw[xq,ih xs hb.2 h.2];congr 1;rw[<-h.1 r hr];cases v<;>first|rfl|(simp[tup2] at hb)
    grind[den]
noncomputable def bodyQ(P:Program)(G:Tys)(fn:Func)(R:Value->St->Prop):Exit->St->Prop
 | .normal,st=>retK P G fn.results.toList st λv=>R v st
 | .ret,st=>retK P G fn.results.toList st λv=>R v st
 | _,_=>False
def jj0:Nat->(List (Option Value)->Prop)->Prop
 | 0,K=>K []
 | n+1,K=>jj0 n λt=>K (none::t)
def initK:List Value->Nat->(List (Option Value)->Prop)->Prop
 | [],n,K=>jj0 n K
 | v::vs,n,K=>initK vs (n-1) λt=>K (some v::t)
def jga:List Value->Nat->List (Option Value)
 | [],n=>List.replicate n none
 | v::vs,n=>some v::jga vs (n-1)
theorem qp4:∀{n:Nat}{K:List (Option Value)->Prop},jj0 n K->K (List.replicate n none)
 | 0,K,h=>h
 | n+1,K,h=>qp4 (n:=n) (K:=λt=>K (none::t)) h
theorem qp5:∀{vs:List Value}{n:Nat}{K:List (Option Value)->Prop},initK vs n K->K (jga vs n)
 | [],n,K,h=>qp4 h
 | v::vs,n,K,h=>qp5 (vs:=vs) (n:=n-1) (K:=λt=>K (some v::t)) h
theorem qp6:∀(vs:List Value)(n:Nat),(jga vs n).length=vs.length+(n-vs.length)
 | [],n=>by simp[jga]
 | v::vs,n=>by simp[jga,qp6 vs (n-1)];omega
theorem qp7:∀(vs:List Value)(n i:Nat)(v:Value),(jga vs n)[i]?=some (some v)->vs[i]?=some v
 | [],n,i,v,h=>by simp[jga,List.getElem?_replicate] at h
 | u::vs,n,0,v,h=>by simpa[jga] using h
 | u::vs,n,i+1,v,h=>by simpa using qp7 vs (n-1) i v (by simpa[jga] using h)
theorem qtq{α β:Type}{p:α->β->Prop}:∀{a:List α}{b:List β},All2 p a b->a.length=b.length
 | [],[],_=>rfl
 | [],_::_,h=>h.elim
 | _::_,[],h=>h.elim
 | _::a,_::b,h=>by simp[qtq h.2]
theorem qtr{α β:Type}{p:α->β->Prop}:∀{a:List α}{b:List β},All2 p a b->∀(i:Nat)(x:α),a[i]?=some x->∃y,b[i]?=some y/\p x y
 | [],[],_,i,x,hx=>by simp at hx
 | [],_::_,h,_,_,_=>h.elim
 | _::_,[],h,_,_,_=>h.elim
 | u::a,v::b,h,0,x,hx=>⟨v,rfl,by simp at hx;subst hx;exact h.1⟩
 | u::a,v::b,h,i+1,x,hx=>by simpa using qtr h.2 i x (by simpa using hx)
variable{vs:List Value}
theorem qfv{f:FuncId}{c:Code}{args:Array Value}{w:World}{X:Ctx}{h:Hp}{R:Value->St->Prop}(hG:jey P G)(hm:P.follows .mixedOrders=true)(hf:P.funcs[f]?=some fn)(hb:fn.body=some c)
  (H:HOK X ρ h w) (hx:All2 (Den (Fil h) ρ) vs args.toList) (hwp:initK vs fn.ntmps λt=>wpC P G X.n0 c (bodyQ P G fn R) ⟨t,h⟩) :
  Calls P f args w λe w'=>∃ρ' v st x,e=.returned x/\HOK X ρ' st.h w'/\Den (Fil st.h) ρ' v x/\R v st:=by
 have hwp:=qp5 hwp
 refine calls_of_wp hf hb ?_
 have hlen:=qtq hx
 have R0:Rel X ρ ⟨jga vs fn.ntmps,h⟩ { tmps:=args++Array.replicate (fn.ntmps-args.size) undef,defers:=[] } w:=by
  refine⟨rfl,?_,λi v hi=>?_,H⟩
  .simp[qp6,hlen]
  .have hv:=qp7 vs fn.ntmps i v hi;obtain⟨y,hy,hd⟩:=qtr hx i v hv;refine⟨y,?_,hd⟩;have hi':i<args.size:=by have:=(xg.1 hy).1;simpa using this
   rw[Array.getElem?_append_left hi'];simpa using hy
 refine wp_mono (qrz hG hm X c _ _ hwp ρ _ w R0) ?_
 rintro e a' w' ⟨ρ',s,R',hq⟩
 cases e with
 | normal=>
  exact Q3W
 | ret=>
  exact Q3W
 | _=>exact hq.elim
def qan(v:Value):Bool:=
 match v with
 | .tuple vs=>vs.toList.all qap
 | v=>qap v
theorem qa0{v:Value}(h:qan v=true)(ρ:Rz):den ρ v=v:=by
 cases v with
 | tuple vs=>
  grind[qan,den,xF,xJ,qg1]
 | _=>(simp only[qan] at h;exact qbb h ρ)
theorem qx2{F:Nat->Prop}{ρ:Rz}:∀{vs:List Value},vs.all qap=true->All2 (Den F ρ) vs vs
 | [],_=>trivial
 | v::vs,h=>by
  simp only[yq,xp] at h;exact⟨Den.plain h.1,qx2 h.2⟩
theorem qg6{F:Nat->Prop}{ρ:Rz}:∀{vs xs:List Value},vs.all qap=true->All2 (Den F ρ) vs xs->xs=vs
 | [],[],_,_=>rfl
 | [],_::_,_,h=>h.elim
 | _::_,[],_,h=>h.elim
 | v::vs,x::xs,hp,h=>by
  simp only[yq,xp] at hp;rw[qg6 hp.2 h.2,<-h.1.self,qbb hp.1]
theorem qac{f:FuncId}{c:Code}{V:Value}(w:World)(hG:jey P G)(hm:P.follows .mixedOrders=true)(hf:P.funcs[f]?=some fn)(hb:fn.body=some c)(hp:vs.all qap=true)(hV:qan V=true)
  (hwp:initK vs fn.ntmps λt=>wpC P G 0 c (bodyQ P G fn λv _=>N (v=V)) ⟨t,[]⟩):Calls P f ⟨vs⟩ w λe w'=>e=.returned V/\Below w.heap.size w w':=by
 have H:HOK ⟨w,λ_=>False,0,λ_=>(0,0)⟩ (λ_=>(0,0)) [] w:=⟨Evo.refl _ _,λi hi=>absurd hi Q8P,λi c hi=>by simp at hi,λi c hi=>by simp at hi,λi c hi=>by simp at hi,λi c j d hi=>by simp at hi,ExtOK.nil λi c hi=>by simp at hi⟩
 refine(qfv (X:=⟨w,λ_=>False,0,λ_=>(0,0)⟩) hG hm hf hb H (qx2 hp) hwp).mono ?_
 rintro e w' ⟨ρ',v,st,x,rfl,H',hd,hv⟩
 have hv:=hv.out
 subst hv
 refine⟨?_,H'.evo.below⟩
 rw[<-hd.self,qa0 hV]
end
def TysAll(P:Program):Tys->Prop
 | []=>True
 | r::rs=>(P.info? r.1=some r.2.1/\P.underlying r.1=some r.2.2)/\TysAll P rs
theorem TysAll.ok:∀{G:Tys},TysAll P G->jey P G
 | [],_=>λr hr=>by cases hr
 | q::rs,h=>λr hr=>by
  rcases xi.1 hr with rfl|hr
  .exact h.1
  .exact TysAll.ok h.2 r hr
theorem Bw{B:Prop}(h:A):N (jis true A B):=N.mk ⟨λ_=>h,λe=>(by cases e)⟩
theorem Bx{B:Prop}(h:B):N (jis false A B):=N.mk ⟨λe=>(by cases e),λ_=>h⟩
theorem Bi{B:Prop}(h:b=true->A)(k:b=false->B):N (jis b A B):=N.mk ⟨h,k⟩
theorem Bg{B:Prop}(hb:b=true)(h:A):N (jis b A B):=N.mk ⟨λ_=>h,λe=>by rw[hb] at e;cases e⟩
theorem Bf{B:Prop}(hb:b=false)(h:B):N (jis b A B):=N.mk ⟨λe=>(by rw[hb] at e;cases e),λ_=>h⟩
theorem N.eq{a b:Value}(h:a=b):N (a=b):=N.mk h
theorem Bc{p:Prop}(h:p)(k:A):N (Obl p A):=N.mk ⟨h,k⟩
section
variable{P:Program}{G:Tys}
variable{vs:List Value}{K:Value->Mz->List Nat->Prop}
theorem Bb{q:Bool}{g:FuncId}{h:Hp}{slot:Nat}{v:Value}{ms:Mz}{rh:List Nat}(hc:qae P g vs h v ms rh)(k:K v ms rh):N (jhi q P g vs h slot K):=N.mk (.inl ⟨v,ms,rh,hc,k⟩)
theorem Bh{g:FuncId}{h:Hp}{slot:Nat}{R:Value->Mz->Prop}(hc:CallAll P g vs h R)(k:∀v ms,R v ms->K v ms []):N (jhi true P g vs h slot K):=N.mk (.inr ⟨rfl,R,hc,k⟩)
theorem qai{g:FuncId}{h:Hp}{v:Value}(hp:vs.all qap=true)(hv:qan v=true)(hr:∀w,(callFunc g ⟨vs⟩).run P w=.ok (.enter g ⟨vs⟩) w)(hc:∀w,Calls P g ⟨vs⟩ w λe w'=>e=.returned v/\Below w.heap.size w w'):qae P g vs h v [] []:=
 λh₂ _ _ X ρ w xs H hx=>by
  obtain rfl:=qg6 hp hx;refine .inr ⟨hr w,(hc w).mono ?_⟩;exact Q4q
theorem qts{g:FuncId}{h:Hp}{v:Value}(hp:vs.all qap=true)(hv:qan v=true)(hr:∀w,(callFunc g ⟨vs⟩).run P w=.ok (.value v) w):qae P g vs h v [] []:=
 λh₂ _ _ X ρ w xs H hx=>by
  obtain rfl:=qg6 hp hx;exact .inl ⟨v,w,hr w,ρ,AgreeOn.refl _ _,H,λr _=>qa0 hv r⟩
theorem Bl{c:Chunk}{f n:Nat}{agg:Bool}{K:Value->Prop}(v:Value)(h:Reads c f agg n v)(k:K v):N (jk0 c f agg n K):=N.mk ⟨v,h,k⟩
theorem N.store{c:Chunk}{f n:Nat}{v:Value}{K:Chunk->Prop}(d:Chunk)(h:Writes c f n v d)(k:K d):N (q47 c f n v K):=N.mk ⟨d,h,k⟩
theorem Bj{a:Int}{n:Nat}{K:Nat->Nat->Prop}(j s:Nat)(ha:a=(j:Nat))(hj:j<n)(k:K j s):N (jmv a n K):=N.mk ⟨j,s,ha,hj,k⟩
theorem Br{op:BinOp}{t:TypeId}{x y:Operand}{a b:Value}{K:Value->Prop}(v:Value)(h:BinIs P op t x y a b v)(k:K v):N (jpm P op t x y a b K):=N.mk ⟨v,h,k⟩
end
def jqc(d:Nat):Nat:=match Nat.ble d 255 with
 | true=>2^d
 | false=>Nat.mul (2^255) (2^(d-255))
def jj1:List Oper->Nat
 | []=>0
 | o::os=>match o.dst with
  | some d=>Nat.lor (jqc d) (jj1 os)
  | none=>jj1 os
noncomputable def maskC(c:Code):Nat:=
 Code.rec (motive:=λ_=>Nat) 0 (λ_ ops _=>jj1 ops.toList) (λ_ _ a b=>Nat.lor a b) (λ_ _ _ a b=>Nat.lor a b) (λ_ _ a=>a) (λ_ a=>a) (λ_ _ _ _ a b=>Nat.lor a b) (λ_=>0) (λ_ a=>a) (λ_=>0) (λ_=>0) 0 (λ_=>0) c
def ji1:Vz->Nat->Option Value
 | [],_=>none
 | (i,v)::r,k=>match Nat.beq i k with
  | true=>some v
  | false=>ji1 r k
def jku(m:Nat)(sets:Vz):List (Option Value)->Nat->List (Option Value)
 | [],_=>[]
 | x::r,k=>(match ji1 sets k with
  | some v=>some v
  | none=>match Nat.testBit m k with
   | true=>none
   | false=>x)::jku m sets r (k+1)
def updK(m:Nat)(sets:Vz):List (Option Value)->Nat->(List (Option Value)->Prop)->Prop
 | [],_,K=>K []
 | x::r,k,K=>match ji1 sets k with
  | some v=>updK m sets r (k+1) λl=>K (some v::l)
  | none=>match Nat.testBit m k with
   | true=>updK m sets r (k+1) λl=>K (none::l)
   | false=>updK m sets r (k+1) λl=>K (x::l)
theorem updK_iff{m:Nat}{sets:Vz}:∀{t:List (Option Value)}{k:Nat}{K:List (Option Value)->Prop},updK m sets t k K↔K (jku m sets t k)
 | [],k,K=>Iff.rfl
 | x::r,k,K=>by
  simp only[updK,jku];cases ji1 sets k with
  | some v=>exact updK_iff
  | none=>
   cases Nat.testBit m k with
   | true=>exact updK_iff
   | false=>exact updK_iff
def ChunkLe(c' c:Chunk):Prop:=(c'.own=true->c.own=true)/\c'.n<=c.n/\(∀j,j<c'.n->c'.f j=c.f j)/\(c'.x=Ext.none\/c'.x=c.x)
theorem ChunkLe.mk{c' c:Chunk}(h1:c'.own=true->c.own=true)(h2:c'.n<=c.n)(h3:∀j,j<c'.n->c'.f j=c.f j)(h4:c'.x=Ext.none:=by rfl):ChunkLe c' c:=⟨h1,h2,h3,.inl h4⟩
theorem ChunkLe.of{o:Bool}{n:Nat}{p q:Pz}(h:p=q):ChunkLe ⟨o,n,p⟩ ⟨o,n,q⟩:=by subst h;exact⟨id,nlr _,λ_ _=>rfl,.inl rfl⟩
theorem ChunkLe.refl(c:Chunk):ChunkLe c c:=⟨id,nlr _,λ_ _=>rfl,.inr rfl⟩
def jip(h:Hp)(i:Nat):Bool:=
 match jfz h i with
 | some (some _)=>true
 | _=>false
theorem filB_iff{h:Hp}:jip h i=true↔Fil h i:=by
 grind[jip,Fil,qb0]
def Safe1(h:Hp)(v:Value):Prop:=
 match v with
 | .pointer (some ⟨i,_,some _⟩)=>jip h i=true
 | .slice (some ⟨i,_,some _⟩) _ _=>jip h i=true
 | .map (some i)=>jip h i=true
 | .func _ _ _=>False
 | _=>True
def Safe(h:Hp)(v:Value):Prop:=
 match v with
 | .agg cs=>∀x∈cs.toList,Safe1 h x
 | .tuple _=>False
 | v=>Safe1 h v
theorem Safe1.inScope{h:Hp}{v:Value}(hs:Safe1 h v):qxy (Fil h) v:=λρ ρ' ha=>by
 cases v with
 | pointer a=>cases a with
  | none=>rfl
  | some a=>
   exact Q40
 | slice a l c=>cases a with
  | none=>rfl
  | some a=>
   exact Q40
 | func f x y=>exact hs.elim
 | map a=>cases a with
  | none=>rfl
  | some i=>have:=ha i (filB_iff.1 hs);simp[den1,den0,this]
 | iface t v=>exact qnc _ _ _ _
 | _=>rfl
theorem Safe.inScope{h:Hp}{v:Value}(hs:Safe h v):jjo (Fil h) v:=λρ ρ' ha=>by
 cases v with
 | agg cs=>
  refine Q4A ?_;apply xF.1;rw[xJ,xJ];exact yp λx hx=>(hs x hx).inScope ρ ρ' ha
 | tuple vs=>exact hs.elim
 | _=>(simp only[Safe] at hs;exact Safe1.inScope hs ρ ρ' ha)
def jgb:Hp->Hp->Bool
 | some _::a,some _::b=>jgb a b
 | none::a,_::b=>jgb a b
 | some _::_,none::_=>true
 | some _::_,[]=>true
 | none::a,[]=>jgb a []
 | [],_=>false
theorem qgf:∀{a b:Hp},jgb a b=false->∀i,Fil a i->Fil b i
 | some _::a,some d::b,h,0,_=>⟨d,rfl⟩
 | some _::a,some d::b,h,i+1,hf=>by obtain⟨c,hc⟩:=qgf (a:=a) (b:=b) h i Q9n;exact⟨c,by simpa using hc⟩
 | none::a,_::b,h,0,hf=>by obtain⟨c,hc⟩:=hf;simp at hc
 | none::a,_::b,h,i+1,hf=>by
  obtain⟨c,hc⟩:=qgf (a:=a) (b:=b) (by cases ‹Option Chunk›<;>exact h) i Q9n;exact⟨c,by simpa using hc⟩
 | some _::_,none::_,h,_,_=>by simp[jgb] at h
 | some _::_,[],h,_,_=>by simp[jgb] at h
 | none::a,[],h,0,hf=>by obtain⟨c,hc⟩:=hf;simp at hc
 | none::a,[],h,i+1,hf=>by
  obtain⟨c,hc⟩:=qgf (a:=a) (b:=[]) h i Q9n;simp at hc
 | [],_,_,i,hf=>by obtain⟨c,hc⟩:=hf;simp at hc
def wkT(h':Hp)(drop:Bool):List (Option Value)->List (Option Value)->Prop->Prop
 | [],[],A=>A
 | _::a,none::b,A=>wkT h' drop a b A
 | some u::a,some v::b,A=>N (Obl (u=v) (match drop with
  | false=>wkT h' drop a b A
  | true=>N (Obl (Safe h' v) (wkT h' drop a b A))))
 | _,_,_=>False
def wkH(h':Hp)(drop:Bool):Hp->Hp->Prop->Prop
 | [],[],A=>A
 | _::a,[],A=>wkH h' drop a [] A
 | _::a,none::b,A=>wkH h' drop a b A
 | some c::a,some c'::b,A=>N (Obl (ChunkLe c' c) (match drop with
  | false=>wkH h' drop a b A
  | true=>N (Obl (∀j,j<c'.n->Safe1 h' (c'.f j)) (wkH h' drop a b A))))
 | _,_,_=>False
def wkK(n0:Nat)(st s:St)(A:Prop):Prop:=
 match st,s with
 | ⟨t,h⟩,⟨t',h'⟩=>match jgb (h.take n0) h' with
  | true=>False
  | false=>match jgb h h' with
   | d=>wkT h' d t t' (wkH h' d h h' A)
theorem qr2{h':Hp}{drop:Bool}:∀{t t':List (Option Value)}{A:Prop},wkT h' drop t t' A->
  t'.length=t.length/\(∀(i:Nat)(v:Value),t'[i]?=some (some v)->t[i]?=some (some v))/\(drop=true->∀(i:Nat)(v:Value),t'[i]?=some (some v)->Safe h' v)/\A
 | [],[],A,h=>⟨rfl,λi v hi=>by simp at hi,λ_ i v hi=>by simp at hi,h⟩
 | x::a,none::b,A,h=>by
  have h:wkT h' drop a b A:=by cases x<;>exact h
  obtain⟨h1,h2,h3,h4⟩:=qr2 h;refine⟨by simp[h1],λi v hi=>?_,λhd i v hi=>?_,h4⟩
  .cases i with
   | zero=>simp at hi
   | succ i=>simpa using h2 i v Q8U
  .cases i with
   | zero=>simp at hi
   | succ i=>exact h3 hd i v Q8U
 | some u::a,some v::b,A,h=>by
  obtain⟨e,h⟩:=N.out h;subst e;have hh:(drop=true->Safe h' u)/\wkT h' drop a b A:=Q3Z;obtain⟨h1,h2,h3,h4⟩:=qr2 hh.2;refine⟨by simp[h1],λi v hi=>?_,λhd i v hi=>?_,h4⟩
  .cases i with
   | zero=>exact hi
   | succ i=>simpa using h2 i v Q8U
  .cases i with
   | zero=>simp at hi;subst hi;exact hh.1 hd
   | succ i=>exact h3 hd i v Q8U
 | none::a,some v::b,A,h=>h.elim
 | [],_::_,A,h=>h.elim
 | _::_,[],A,h=>by cases ‹Option Value›<;>exact h.elim
theorem qnp{h':Hp}{drop:Bool}:∀{a b:Hp}{A:Prop},wkH h' drop a b A->
  (∀(i:Nat)(c:Chunk),b[i]?=some (some c)->∃d,a[i]?=some (some d)/\ChunkLe c d)/\(drop=true->∀(i:Nat)(c:Chunk),b[i]?=some (some c)->∀j,j<c.n->Safe1 h' (c.f j))/\A
 | [],[],A,h=>⟨λi v hi=>by simp at hi,λ_ i v hi=>by simp at hi,h⟩
 | x::a,[],A,h=>by
  have h:wkH h' drop a [] A:=by cases x<;>exact h
  obtain⟨_,_,h3⟩:=qnp h;exact⟨λi v hi=>by simp at hi,λ_ i v hi=>by simp at hi,h3⟩
 | x::a,none::b,A,h=>by
  have h:wkH h' drop a b A:=by cases x<;>exact h
  obtain⟨h1,h2,h3⟩:=qnp h;refine⟨λi v hi=>?_,λhd i v hi=>?_,h3⟩
  .cases i with
   | zero=>simp at hi
   | succ i=>simpa using h1 i v Q8U
  .cases i with
   | zero=>simp at hi
   | succ i=>exact h2 hd i v Q8U
 | some c::a,some c'::b,A,h=>by
  obtain⟨e,h⟩:=N.out h;have hh:(drop=true->∀j,j<c'.n->Safe1 h' (c'.f j))/\wkH h' drop a b A:=Q3Z;obtain⟨h1,h2,h3⟩:=qnp hh.2;refine⟨λi v hi=>?_,λhd i v hi=>?_,h3⟩
  .cases i with
   | zero=>simp at hi;subst hi;exact⟨c,rfl,e⟩
   | succ i=>simpa using h1 i v Q8U
  .cases i with
   | zero=>simp at hi;subst hi;exact hh.1 hd
   | succ i=>exact h2 hd i v Q8U
 | none::a,some c'::b,A,h=>h.elim
 | [],none::b,A,h=>h.elim
 | [],some _::b,A,h=>h.elim
theorem qp8{n0:Nat}{s:St}(h:wkK n0 st s A):Wk n0 st s/\A:=by
 obtain⟨t,hh⟩:=st;obtain⟨t',h'⟩:=s;simp only[wkK] at h;cases hb:jgb (hh.take n0) h' with
 | true=>rw[hb] at h;exact h.elim
 | false=>
  rw[hb] at h;simp only at h;obtain⟨a1,a2,a3,h⟩:=qr2 h;obtain⟨b1,b2,h⟩:=qnp h;refine⟨⟨a1,a2,λi c hi=>?_,λi hi hf=>?_,?_⟩,h⟩
  .obtain⟨d,hd,h1,h2,h3⟩:=b1 i c hi;simp_all
  .refine qgf hb i ?_;obtain⟨c,hc⟩:=hf;exact⟨c,by rw[List.getElem?_take,if_pos hi];exact hc⟩
  .cases hd:jgb hh h' with
   | false=>exact .inl (qgf hd)
   | true=>
    refine .inr ⟨λi v hi=>(a3 hd i v hi).inScope,λi c hi j hj=>(b2 hd i c hi j hj).inScope⟩
def jib{α:Type}(p:α->Prop)(K:α->Prop):Prop:=∃y,p y/\K y
theorem N.next{α:Type}{p:α->Prop}{K:α->Prop}(y:α)(hp:p y)(k:K y):N (jib p K):=N.mk ⟨y,hp,k⟩
theorem Be:N True:=N.mk trivial
section
variable{P:Program}{G:Tys}
theorem setM_iff{K:Hp->Prop}:∀{ms:Mz}{h:Hp},jgp h ms K↔K (modH h ms):=by
 have one:∀{l:Hp}{n:Nat}{v:Chunk}{K:Hp->Prop},jh2 l n v K↔K (l.set n (some v)):=by
  intro l
  induction l with
  | nil=>intro n v K;exact Iff.rfl
  | cons x r ih=>intro n v K;cases n with
   | zero=>exact Iff.rfl
   | succ n=>exact ih (K:=λr'=>K (x::r'))
 intro ms
 induction ms with
 | nil=>intro h;exact Iff.rfl
 | cons m ms ih=>intro h;exact one.trans ih
def jm6(K:Nat->St->Prop)(Q:Exit->St->Prop):Exit->St->Prop
 | .goto l,s=>K l s
 | e,s=>Q e s
variable{Q:Exit->St->Prop}{t:List (Option Value)}
theorem N.jumps{n0:Nat}{c r0:Code}{l0:Nat}{h:Hp}(hG:jey P G)(hm:P.follows .mixedOrders=Bool.true){α:Type}(ok:Nat->α->Prop)(μ:Nat->α->Nat)(sets:Nat->α->Vz)(hs:Nat->α->Mz)(x0:α)(h0:ok l0 x0)
  (hw:updK (maskC c) (sets l0 x0) t 0 λt'=>jgp h (hs l0 x0) λh'=>wkK n0 ⟨t,h⟩ ⟨t',h'⟩ (N True))
  (hr:∀l x,ok l x->∃r,findLabel c l=some r/\updK (maskC c) (sets l x) t 0 λt'=>jgp h (hs l x) λh'=>wpC P G n0 r (jm6 (λl' s=>N (jib (λy=>ok l' y/\μ l' y<μ l x) λy=>updK (maskC c) (sets l' y) t 0 λt''=>jgp h (hs l' y) λh''=>wkK n0 s ⟨t'',h''⟩ (N True))) Q) ⟨t',h'⟩):N (jjz P n0 c r0 l0 Q ⟨t,h⟩):=by
 refine N.mk (.inr ⟨α,λl x=>⟨jku (maskC c) (sets l x) t 0,modH h (hs l x)⟩,μ,ok,λl x l' s=>N (jib (λy=>ok l' y/\μ l' y<μ l x) λy=>updK (maskC c) (sets l' y) t 0 λt''=>jgp h (hs l' y) λh''=>wkK n0 s ⟨t'',h''⟩ (N True)),λl x l' s hq=>?_,⟨x0,h0,(qp8 (setM_iff.1 (updK_iff.1 hw))).1.g⟩,λl x hx=>?_⟩)
 .obtain⟨y,⟨hy,hlt⟩,hk⟩:=N.out hq;exact⟨y,hy,(qp8 (setM_iff.1 (updK_iff.1 hk))).1.g,hlt⟩
 .obtain⟨r,hf,hk⟩:=hr l x hx;refine⟨r,hf,λX hX ρ a w R=>?_⟩;subst hX;refine wp_mono (qrz hG hm X r _ _ (setM_iff.1 (updK_iff.1 hk)) ρ a w R) ?_;rintro e a2 w2 ⟨ρ2,s2,R2,hq2⟩;refine⟨ρ2,s2,R2,?_⟩;cases e<;>exact hq2
theorem Bo{n0:Nat}{c:Code}{A:(Exit->St->Prop)->St->Prop}{h:Hp}{α:Type}(inv:α->Prop)(μ:α->Nat)(sets:α->Vz)(hs:α->Mz)(x0:α)(h0:inv x0)
  (hw:updK (maskC c) (sets x0) t 0 λt'=>jgp h (hs x0) λh'=>wkK n0 ⟨t,h⟩ ⟨t',h'⟩ (N True))
  (hr:∀x,inv x->updK (maskC c) (sets x) t 0 λt'=>jgp h (hs x) λh'=>A (thenQ (λs=>N (jib (λy=>inv y/\μ y<μ x) λy=>updK (maskC c) (sets y) t 0 λt''=>jgp h (hs y) λh''=>wkK n0 s ⟨t'',h''⟩ (N True))) Q) ⟨t',h'⟩):N (jhm P G n0 c A Q ⟨t,h⟩):=by
 refine N.mk ⟨α,λx=>⟨jku (maskC c) (sets x) t 0,modH h (hs x)⟩,inv,μ,λx s=>N (jib (λy=>inv y/\μ y<μ x) λy=>updK (maskC c) (sets y) t 0 λt''=>jgp h (hs y) λh''=>wkK n0 s ⟨t'',h''⟩ (N True)),λx s hq=>?_,⟨x0,h0,(qp8 (setM_iff.1 (updK_iff.1 hw))).1.g⟩,λx hx=>setM_iff.1 (updK_iff.1 (hr x hx))⟩
 obtain⟨y,⟨hy,hlt⟩,hk⟩:=N.out hq
 exact⟨y,hy,(qp8 (setM_iff.1 (updK_iff.1 hk))).1.g,hlt⟩
end
open Go Go.RowKit
theorem Evo.into{M M':Addr->Prop}{a b c:World}(h:Evo M a b)(k:Evo M' b c)(hs:∀p,M' ⟨p,0,some 0⟩->a.heap.size<=p\/M ⟨p,0,some 0⟩)(hm:∀p j,M' ⟨p,j,none⟩->a.heap.size<=p\/M ⟨p,j,none⟩):Evo M a c:=
 ⟨k.os.trans h.os,k.tape.trans h.tape,k.output.trans h.output,xC h.size k.size,λi hi=>(h.block i hi).trans (by
  rcases k.block i (xl hi h.size) with e|e|⟨cs,ty,fz,cs',e1,e2,hs',hc⟩
  .exact .inl e
  .rcases hs i e with h1|h1
   .omega
   .exact .inr (.inl h1)
  .refine .inr (.inr ⟨cs,ty,fz,cs',e1,e2,hs',λj hj=>hc j λhj'=>?_⟩)
   grind)⟩
theorem Evo.same{M:Addr->Prop}{w':World}(k:Evo M w w'){b:Nat}(hb:b<w.heap.size)(hs:¬ M ⟨b,0,some 0⟩)(hm:∀j,¬ M ⟨b,j,none⟩):w'.heap[b]?=w.heap[b]?:=by
 rcases k.block b hb with e|e|⟨cs,ty,fz,cs',e1,e2,hs',hc⟩
 .exact e.symm
 .simp_all
 .rw[e1,e2];have:cs'=cs:=zn λj=>hc j (hm j)
  rw[this]
variable{F:Nat->Prop}
theorem q13{v x:Value}(hv:qbi v=true)(h:Den1 F ρ v x):x=v:=by
 rw[<-h.self,qbl hv]
theorem Den1.plain{v:Value}(hv:qbi v=true):Den1 F ρ v v:=λr _=>qbl hv r
def ixK:List (Nat×Nat)->Nat->Option Nat
 | [],_=>none
 | (k,i)::r,n=>match Nat.beq k n with
  | true=>some i
  | false=>ixK r n
theorem qew:∀{ix:List (Nat×Nat)}{k i:Nat},ixK ix k=some i->(k,i)∈ix
 | [],_,_,h=>by cases h
 | (a,b)::r,k,i,h=>by
  simp only[ixK] at h;cases e:Nat.beq a k with
  | true=>
   simp_all
  | false=>rw[e] at h;exact yI _ (qew h)
inductive Re0(ix:List (Nat×Nat)):Value->Value->Prop
 | ptr {i k f s s':Nat} (h:ixK ix k=some i):Re0 ix (.pointer (some ⟨i,f,some s⟩)) (.pointer (some ⟨k,f,some s'⟩))
 | any {v v':Value} (h:∀r r',den0 r v=den0 r' v'):Re0 ix v v'
inductive Re1(ix:List (Nat×Nat)):Value->Value->Prop
 | plain {v:Value} (h:qbi v=true):Re1 ix v v
 | ptr {i k f s s':Nat} (h:ixK ix k=some i):Re1 ix (.pointer (some ⟨i,f,some s⟩)) (.pointer (some ⟨k,f,some s'⟩))
 | slice {i k f s s' l c:Nat} (h:ixK ix k=some i):Re1 ix (.slice (some ⟨i,f,some s⟩) l c) (.slice (some ⟨k,f,some s'⟩) l c)
 | map {i k:Nat} (h:ixK ix k=some i):Re1 ix (.map (some i)) (.map (some k))
 | quo {t:TypeId} {v:Value}:Re1 ix (.iface t v) (.iface t v)
 | any {v v':Value} (h:∀r r',den1 r v=den1 r' v'):Re1 ix v v'
 | func {g:Fn} {m m' l l':List Value} (hu:All2 (Re0 ix) m m') (h:All2 (Re0 ix) l l'):Re1 ix (.func g ⟨m⟩ ⟨l⟩) (.func g ⟨m'⟩ ⟨l'⟩)
inductive Re2(ix:List (Nat×Nat)):Value->Value->Prop
 | plain {v:Value} (h:qap v=true):Re2 ix v v
 | ptr {i k f s s':Nat} (h:ixK ix k=some i):Re2 ix (.pointer (some ⟨i,f,some s⟩)) (.pointer (some ⟨k,f,some s'⟩))
 | slice {i k f s s' l c:Nat} (h:ixK ix k=some i):Re2 ix (.slice (some ⟨i,f,some s⟩) l c) (.slice (some ⟨k,f,some s'⟩) l c)
 | map {i k:Nat} (h:ixK ix k=some i):Re2 ix (.map (some i)) (.map (some k))
 | quo {t:TypeId} {v:Value}:Re2 ix (.iface t v) (.iface t v)
 | agg {l l':List Value} (h:All2 (Re1 ix) l l'):Re2 ix (.agg ⟨l⟩) (.agg ⟨l'⟩)
 | any {v v':Value} (h2:∀r r',Sx.den2 r v=Sx.den2 r' v') (h:∀r r',Sx.den r v=Sx.den r' v'):Re2 ix v v'
 | func {g:Fn} {m m' l l':List Value} (hu:All2 (Re0 ix) m m') (h:All2 (Re0 ix) l l'):Re2 ix (.func g ⟨m⟩ ⟨l⟩) (.func g ⟨m'⟩ ⟨l'⟩)
inductive Re(ix:List (Nat×Nat)):Value->Value->Prop
 | plain {v:Value} (h:qan v=true):Re ix v v
 | one {v v':Value} (h:Re2 ix v v'):Re ix v v'
 | tuple {l l':List Value} (h:All2 (Re2 ix) l l'):Re ix (.tuple ⟨l⟩) (.tuple ⟨l'⟩)
variable{ix:List (Nat×Nat)}
theorem Re0.den{v v':Value}{r r':Rz}(h:Re0 ix v v')(hr:∀k i,(k,i)∈ix->r i=r' k):den0 r v=den0 r' v':=by
 cases h with
 | ptr h=>simp only[den0,jfd,hr _ _ (qew h)]
 | any h=>exact h _ _
theorem qp9{ix:List (Nat×Nat)}{r r':Rz}(hr:∀k i,(k,i)∈ix->r i=r' k):∀{l l':List Value},All2 (Re0 ix) l l'->l.map (den0 r)=l'.map (den0 r')
 | [],[],_=>rfl
 | [],_::_,h=>h.elim
 | _::_,[],h=>h.elim
 | _::_,_::_,h=>by rw[xq,xq,h.1.den hr,qp9 hr h.2]
theorem Re1.den{v v':Value}{r r':Rz}(h:Re1 ix v v')(hr:∀k i,(k,i)∈ix->r i=r' k):den1 r v=den1 r' v':=by
 cases h with
 | plain h=>rw[qbl h,qbl h]
 | ptr h=>simp only[den1,den0,jfd,hr _ _ (qew h)]
 | slice h=>simp only[den1,den0,jfd,hr _ _ (qew h)]
 | map h=>simp only[den1,den0,hr _ _ (qew h)]
 | quo=>exact qnc _ _ _ _
 | any h=>exact h _ _
 | func hu h=>
  grind[den1,qp9]
theorem qqa{ix:List (Nat×Nat)}{r r':Rz}(hr:∀k i,(k,i)∈ix->r i=r' k):∀{l l':List Value},All2 (Re1 ix) l l'->l.map (den1 r)=l'.map (den1 r')
 | [],[],_=>rfl
 | [],_::_,h=>h.elim
 | _::_,[],h=>h.elim
 | _::_,_::_,h=>by rw[xq,xq,h.1.den hr,qqa hr h.2]
theorem Re2.den2{v v':Value}{r r':Rz}(h:Re2 ix v v')(hr:∀k i,(k,i)∈ix->r i=r' k):Sx.den2 r v=Sx.den2 r' v':=by
 cases h with
 | plain h=>rw[qg1 h,qg1 h]
 | ptr h=>simp only[Sx.den2,den1,den0,jfd,hr _ _ (qew h)]
 | slice h=>simp only[Sx.den2,den1,den0,jfd,hr _ _ (qew h)]
 | map h=>simp only[Sx.den2,den1,den0,hr _ _ (qew h)]
 | quo=>exact qnc _ _ _ _
 | agg h=>
  simp only[Sx.den2,Value.agg.injEq];apply xF.1
  grind[qqa]
 | any h2 _=>exact h2 _ _
 | func hu h=>exact(Re1.func hu h:Re1 ix _ _).den hr
theorem qqb{ix:List (Nat×Nat)}{r r':Rz}(hr:∀k i,(k,i)∈ix->r i=r' k):∀{l l':List Value},All2 (Re2 ix) l l'->l.map (den2 r)=l'.map (den2 r')
 | [],[],_=>rfl
 | [],_::_,h=>h.elim
 | _::_,[],h=>h.elim
 | _::_,_::_,h=>by rw[xq,xq,h.1.den2 hr,qqb hr h.2]
theorem Re2.den{v v':Value}{r r':Rz}(h:Re2 ix v v')(hr:∀k i,(k,i)∈ix->r i=r' k):Sx.den r v=Sx.den r' v':=by
 have e:=h.den2 hr;cases h with
 | plain h=>rw[qbb h,qbb h]
 | ptr h=>exact e
 | slice h=>exact e
 | map h=>exact e
 | quo=>exact e
 | agg h=>exact e
 | any _ h=>exact h _ _
 | func _ _=>exact e
theorem Re.den{v v':Value}{r r':Rz}(h:Re ix v v')(hr:∀k i,(k,i)∈ix->r i=r' k):Sx.den r v=Sx.den r' v':=by
 cases h with
 | plain h=>rw[qa0 h,qa0 h]
 | one h=>exact h.den hr
 | tuple h=>
  simp only[Sx.den,Value.tuple.injEq];apply xF.1
  grind[qqb]
structure jeo where
 i:Nat
 c:Chunk
 e:Chunk
 d:Chunk
structure jfb where
 i:Nat
 k:Nat
 d:Chunk
def partH:List jeo->Hp
 | []=>[]
 | s::r=>some s.e::partH r
def partX:List jeo->Nat->List (Nat×Nat)
 | [],_=>[]
 | s::r,k=>(k,s.i)::partX r (k+1)
def partM:List jeo->Mz
 | []=>[]
 | s::r=>match s.e.own with
  | true=>(s.i,s.d)::partM r
  | false=>partM r
def jhn:List jeo->List Nat
 | []=>[]
 | s::r=>match s.e.own with
  | true=>jhn r
  | false=>s.i::jhn r
def madeX:List jfb->List (Nat×Nat)
 | []=>[]
 | n::r=>(n.k,n.i)::madeX r
def madeM:List jfb->Mz
 | []=>[]
 | n::r=>(n.i,n.d)::madeM r
theorem qkz:∀{ss:List jeo}{k:Nat},(partH ss)[k]?=(ss[k]?).map λs=>some s.e
 | [],k=>by simp[partH]
 | s::r,0=>rfl
 | s::r,k+1=>by simpa[partH] using qkz (ss:=r) (k:=k)
theorem qk0:∀{ss:List jeo}{k0 k i:Nat},(k,i)∈partX ss k0↔∃l s,ss[l]?=some s/\k=k0+l/\i=s.i
 | [],k0,k,i=>by simp[partX]
 | s::r,k0,k,i=>by
  simp only[partX,xi,Prod.mk.injEq,qk0 (ss:=r)];constructor
  .rintro(⟨rfl,rfl⟩|⟨l,t,h,rfl,rfl⟩)
   .grind
   grind
  grind
theorem partM_mem:∀{ss:List jeo}{m:Nat×Chunk},m∈partM ss↔∃s∈ss,s.e.own=true/\m=(s.i,s.d)
 | [],m=>by simp[partM]
 | s::r,m=>by
  simp only[partM];cases e:s.e.own with
  | true=>
       exact Q48
  | false=>
        exact Q48
theorem qk1:∀{ss:List jeo}{i:Nat},(∃s∈ss,s.e.own=false/\i=s.i)->i∈jhn ss
 | [],i,h=>by simp at h
 | s::r,i,⟨t,ht,h1,h2⟩=>by
  simp only[jhn];rcases xi.1 ht with rfl|ht
  .simp_all
  .have:=qk1 (ss:=r) ⟨t,ht,h1,h2⟩
   grind
theorem madeX_mem:∀{ns:List jfb}{k i:Nat},(k,i)∈madeX ns↔∃n∈ns,k=n.k/\i=n.i
 | [],k,i=>by simp[madeX]
 | n::r,k,i=>by simp[madeX,madeX_mem (ns:=r)]
theorem madeM_mem:∀{ns:List jfb}{m:Nat×Chunk},m∈madeM ns↔∃n∈ns,m=(n.i,n.d)
 | [],m=>by simp[madeM]
 | n::r,m=>by simp[madeM,madeM_mem (ns:=r)]
theorem qim:∀{ms:Mz}{h:Hp},(modH h ms).length=h.length
 | [],h=>rfl
 | (i,c)::ms,h=>by simp[modH,qim (ms:=ms)]
theorem qnq:∀{ms:Mz}{h:Hp}{k:Nat}{e:Chunk},(modH h ms)[k]?=some (some e)->(∃m∈ms,m.1=k/\m.2=e)\/((∀m∈ms,m.1≠k)/\h[k]?=some (some e))
 | [],h,k,e,hk=>.inr ⟨by simp,hk⟩
 | (i,c)::ms,h,k,e,hk=>by
  rcases qnq (ms:=ms) hk with ⟨m,hm,h1,h2⟩|⟨h1,h2⟩
  .grind
  .by_cases ek:i=k
   .subst ek;have hl:i<h.length:=by have:=(xg.1 h2).1;simpa using this
    simp_all
   grind
theorem qtt:∀{ms:Mz}{h:Hp}{m:Nat×Chunk},m∈ms->m.1<h.length->Fil (modH h ms) m.1
 | (i,c)::ms,h,m,hm,hl=>by
  rcases xi.1 hm with rfl|hm
  .exact Fil.mod (ms:=ms) ⟨c,by rw[xG hl]⟩
  .exact qtt (ms:=ms) hm Q91
def PartsIn(h:Hp):List jeo->Prop
 | []=>True
 | s::r=>h[s.i]?=some (some s.c)/\PartsIn h r
def qbh(ix:List (Nat×Nat))(c e:Chunk):Prop:=∀j,j<e.n->Re1 ix (c.f j) (e.f j)
def PartsRe(ix:List (Nat×Nat)):List jeo->Prop
 | []=>True
 | s::r=>((s.e.own=true->s.c.own=true/\s.d.n<=s.c.n)/\s.e.n<=s.c.n/\qbh ix s.c s.e)/\PartsRe ix r
def Apart:List jeo->Prop
 | []=>True
 | s::r=>(∀t∈r,(s.e.own=true\/t.e.own=true)->s.i≠t.i)/\Apart r
def MadeIn(h:Hp):List jfb->Prop
 | []=>True
 | n::r=>(h[n.i]?=some none/\(n.d.own,n.d.x)=(true,Ext.none)/\0<n.d.n/\∀m∈r,n.i≠m.i/\n.k≠m.k)/\MadeIn h r
theorem PartsIn.at{h:Hp}:∀{ss:List jeo},PartsIn h ss->∀s∈ss,h[s.i]?=some (some s.c)
 | t::r,hp,s,hs=>Q3S
theorem PartsRe.at:∀{ss:List jeo},PartsRe ix ss->∀s∈ss,(s.e.own=true->s.c.own=true/\s.d.n<=s.c.n)/\s.e.n<=s.c.n/\qbh ix s.c s.e
 | t::r,hp,s,hs=>Q3S
theorem Apart.at:∀{ss:List jeo},Apart ss->∀(k l:Nat)(s t:jeo),ss[k]?=some s->ss[l]?=some t->k≠l->s.e.own=true->s.i≠t.i
 | a::r,hp,0,0,s,t,hk,hl,hne,ho=>absurd rfl hne
 | a::r,hp,0,l+1,s,t,hk,hl,hne,ho=>by
  simp at hk;subst hk;exact hp.1 t (xL Q91) (.inl ho)
 | a::r,hp,k+1,0,s,t,hk,hl,hne,ho=>by
  simp at hl;subst hl;exact λe=>hp.1 s (xL Q9F) (.inr ho) e.symm
 | a::r,hp,k+1,l+1,s,t,hk,hl,hne,ho=>hp.2.at k l s t Q9F Q91 Q8E ho
theorem MadeIn.at{h:Hp}:∀{ns:List jfb},MadeIn h ns->∀n∈ns,h[n.i]?=some none/\n.d.own=true/\0<n.d.n/\n.d.x=Ext.none
 | t::r,hp,s,hs=>by
  rcases xi.1 hs with rfl|hs
  .exact⟨hp.1.1,(Prod.mk.inj hp.1.2.1).1,hp.1.2.2.1,(Prod.mk.inj hp.1.2.1).2⟩
  .exact hp.2.at s hs
theorem MadeIn.ne{h:Hp}:∀{ns:List jfb},MadeIn h ns->∀n∈ns,∀m∈ns,(n.i=m.i\/n.k=m.k)->n=m
 | t::r,hp,n,hn,m,hm,he=>by
  rcases xi.1 hn with h1|h1<;>rcases xi.1 hm with h2|h2
  .rw[h1,h2]
  .have:=hp.1.2.2.2 m h2;rw[h1] at he;omega
  .have:=hp.1.2.2.2 n h1;rw[h2] at he;omega
  .exact hp.2.ne n h1 m h2 he
theorem qin{o:Bool}{n m:Nat}{ps:Pz}(hp:∀j,j<n->qbi (qbf ps j)=true):
  ((⟨false,n,ps⟩:Chunk).own=true->(⟨o,n,ps⟩:Chunk).own=true/\m<=(⟨o,n,ps⟩:Chunk).n)/\(⟨false,n,ps⟩:Chunk).n<=(⟨o,n,ps⟩:Chunk).n/\qbh ix ⟨o,n,ps⟩ ⟨false,n,ps⟩:=
 ⟨λh=>Q94,nlr _,λj hj=>.plain (hp j hj)⟩
theorem qam{n:Nat}{l:List Value}(hl:l.length=n)(h:qap (.agg ⟨l⟩)=true):∀j,j<n->qbi (qbf [(0,n,.agg ⟨l⟩)] j)=true:=by grind[qar,cellIn,qap,List.getElem_mem]
def PostC(ix:List (Nat×Nat))(h:Hp)(k:Nat)(d:Chunk):Prop:=∃c,h[k]?=some (some c)/\(d.own=true->c.own=true)/\d.n<=c.n/\∀j,j<d.n->Re1 ix (d.f j) (c.f j)
def PostS(ix:List (Nat×Nat))(h:Hp):List jeo->Nat->Prop
 | [],_=>True
 | s::r,k=>match s.e.own with
  | true=>PostC ix h k s.d/\PostS ix h r (k+1)
  | false=>PostS ix h r (k+1)
def PostN(ix:List (Nat×Nat))(h:Hp)(n0:Nat):List jfb->Prop
 | []=>True
 | n::r=>(n0<=n.k/\PostC ix h n.k n.d)/\PostN ix h n0 r
theorem PostS.at{ix:List (Nat×Nat)}{h:Hp}:∀{ss:List jeo}{k0:Nat},PostS ix h ss k0->∀(l:Nat)(s:jeo),ss[l]?=some s->s.e.own=true->PostC ix h (k0+l) s.d
 | a::r,k0,hp,0,s,hl,ho=>by
  grind[PostS]
 | a::r,k0,hp,l+1,s,hl,ho=>by
  simp only[PostS] at hp;have:PostS ix h r (k0+1):=by
   grind
  rw[show k0+(l+1)=k0+1+l by omega];exact this.at l s Q91 ho
theorem PostN.at{h:Hp}{n0:Nat}:∀{ns:List jfb},PostN ix h n0 ns->∀n∈ns,n0<=n.k/\PostC ix h n.k n.d
 | t::r,hp,s,hs=>Q3S
section
variable{P:Program}{G:Tys}
def jg3(ss:List jeo)(k:Nat):Nat:=match ss[k]? with
 | some s=>s.i
 | none=>0
def subM(ρ:Rz)(S:Nat->Nat->Prop)(ss:List jeo):Addr->Prop:=λa=>
 (a.spot=none/\∃s∈ss,s.e.own=true/\a.block=(ρ s.i).1/\(ρ s.i).2<=a.off/\a.off<(ρ s.i).2+s.c.n)\/∃s∈ss,s.e.own=true/\S s.i a.block
variable{ρ:Rz}{S:Nat->Nat->Prop}{ss:List jeo}
theorem qnr{b:Nat}(h:subM ρ S ss ⟨b,0,some 0⟩):∃s∈ss,s.e.own=true/\S s.i b:=by
 rcases h with ⟨h,_⟩|h
 .cases h
 .exact h
def qx3(s:jeo):Prop:=s.e.x=Ext.none\/(s.e.own=true/\s.e.x=s.c.x)
variable{h₂:Hp}{vs xs:List Value}{X:Ctx}{w:World}
theorem qk2(ss:List jeo)(vs':List Value)
  (hI:∀s∈ss,h₂[s.i]?=some (some s.c)) (hre:PartsRe (partX ss 0) ss) (hap:Apart ss) (hex:∀s∈ss,qx3 s) (hvs:All2 (Re2 (partX ss 0)) vs vs') (H:HOK X ρ h₂ w) (E:ExtOK X ρ h₂ w S) (hx:All2 (Den (Fil h₂) ρ) vs xs) :
  HOK ⟨w,subM ρ S ss,ss.length,λk=>ρ (jg3 ss k)⟩ (λk=>ρ (jg3 ss k)) (partH ss) w/\All2 (Den (Fil (partH ss)) λk=>ρ (jg3 ss k)) vs' xs:=by
 let σ:Nat->Nat:=jg3 ss
 have hσ:∀k s,ss[k]?=some s->σ k=s.i:=λk s hk=>by show(match ss[k]? with|some s=>s.i|none=>0)=s.i;rw[hk]
 let M':Addr->Prop:=subM ρ S ss
 have hix0:∀k i,(k,i)∈partX ss 0->i=σ k/\k<ss.length:=λk i hki=>by
  grind[qk0]
 have filH:∀k s,ss[k]?=some s->Fil (partH ss) k:=λk s hk=>⟨s.e,by rw[qkz,hk];rfl⟩
 have getP:∀k c,(partH ss)[k]?=some (some c)->∃s:jeo,ss[k]?=some s/\s.e=c:=λk c hk=>by
  rw[qkz] at hk;cases e:ss[k]? with
  | none=>rw[e] at hk;cases hk
  | some s=>rw[e] at hk;exact⟨s,e,by simpa using hk⟩
 have H0:HOK ⟨w,M',ss.length,λk=>ρ (σ k)⟩ (λk=>ρ (σ k)) (partH ss) w:=by
  refine⟨Evo.refl _ _,λk hk=>?_,λk c hk=>?_,λk c hk j hj=>?_,λk c hk ho j hj=>?_,λk c l e hk ho hl hne=>?_,?_⟩
  .simp_all
  .obtain⟨s,hs,rfl⟩:=getP k c hk;show(ρ (σ k)).1<_;rw[hσ k s hs];exact H.lt _ _ (hI s (xL hs))
  .obtain⟨s,hs,rfl⟩:=getP k c hk;have hmem:=xL hs;obtain⟨_,hn,hcr⟩:=hre.at s hmem;obtain⟨x,hx,hdx⟩:=H.cell _ _ (hI s hmem) j (xl hj hn);show ∃x,w.cell? ⟨(ρ (σ k)).1,(ρ (σ k)).2+j,none⟩=some x/\_;rw[hσ k s hs];refine⟨x,hx,λr hrr=>?_⟩;have:=(hcr j hj).den (r:=ρ) (r':=r) (λk i hki=>by
    obtain⟨rfl,hlt⟩:=hix0 k i hki;exact(hrr k (filH k ss[k] (by simp[hlt]))).symm)
   rw[<-this];exact hdx.self
  .obtain⟨s,hs,rfl⟩:=getP k c hk;have hmem:=xL hs;obtain⟨ho1,hn,hcr⟩:=hre.at s hmem;have hj':=xl hj hn;show w.frozen? ⟨(ρ (σ k)).1,(ρ (σ k)).2+j,none⟩=false/\(_<=(ρ (σ k)).1\/M' ⟨(ρ (σ k)).1,(ρ (σ k)).2+j,none⟩);rw[hσ k s hs];exact⟨(H.own _ _ (hI s hmem) (ho1 ho).1 j hj').1,.inr (.inl ⟨rfl,s,hmem,ho,rfl,Nat.le_add_right _ _,Nat.add_lt_add_left hj' _⟩)⟩
  .obtain⟨s,hs,rfl⟩:=getP k c hk;obtain⟨t,ht,rfl⟩:=getP l e hl;have hmem:=xL hs;show(ρ (σ k)).1≠(ρ (σ l)).1;rw[hσ k s hs,hσ l t ht];exact H.sep _ _ _ _ (hI s hmem) ((hre.at s hmem).1 ho).1 (hI t (xL ht)) (hap.at k l s t hs ht hne ho)
  .refine⟨λk b=>∃s,ss[k]?=some s/\s.e.x≠Ext.none/\S s.i b,λk c hk=>?_,λk c b hk hS=>?_,λk c b l d hk hS hl hne=>?_⟩
   .obtain⟨s,hs,rfl⟩:=getP k c hk;show s.e.x.inv (ρ (σ k)) _ w;rw[hσ k s hs];rcases hex s (xL hs) with e|⟨_,e⟩
    .rw[e];rintro b ⟨t,ht,h1,_⟩;simp_all
    .by_cases en:s.e.x=Ext.none
     .rw[en];rintro b ⟨t,ht,h1,_⟩;simp_all
     .have:(λb=>∃t,ss[k]?=some t/\t.e.x≠Ext.none/\S t.i b)=S s.i:=by
       simp_all
      rw[this,e];exact E.inv _ _ (hI s (xL hs))
   .obtain⟨s,hs,rfl⟩:=getP k c hk;obtain⟨t,ht,hx1,hb⟩:=hS;rw[hs] at ht;obtain rfl:s=t:=by simpa using ht
    have hmem:=xL hs;obtain⟨h1,h2,h3⟩:=E.mine _ _ b (hI s hmem) hb;have ho:s.e.own=true:=Q4S;exact⟨by have:=(hre.at s hmem).2.1;show s.e.n=0\/b≠(ρ (σ k)).1;rw[hσ k s hs];omega,h2,.inr ⟨.inr ⟨s,hmem,ho,hb⟩,λj=>.inr ⟨s,hmem,ho,hb⟩⟩⟩
   .obtain⟨s,hs,rfl⟩:=getP k c hk;obtain⟨u,hu,rfl⟩:=getP l d hl;obtain⟨t,ht,hx1,hb⟩:=hS;rw[hs] at ht;obtain rfl:s=t:=by simpa using ht
    have hmem:=xL hs;have ho:s.e.own=true:=Q4S;have hne':u.i≠s.i:=λe=>hap.at k l s u hs hu (λe=>hne e.symm) ho e.symm
    obtain⟨h1,h2⟩:=E.apart _ _ b _ _ (hI s hmem) hb (hI u (xL hu)) hne';simp_all
 have hargs:∀(aas bs ys:List Value),All2 (Re2 (partX ss 0)) aas bs->All2 (Den (Fil h₂) ρ) aas ys->All2 (Den (Fil (partH ss)) λk=>ρ (σ k)) bs ys:=by
  intro aas
  induction aas with
  | nil=>intro bs ys h1 h2;cases bs with
   | nil=>cases ys with
    | nil=>exact trivial
    | cons _ _=>exact h2.elim
   | cons _ _=>exact h1.elim
  | cons a aas ih=>
   intro bs ys h1 h2;cases bs with
   | nil=>exact h1.elim
   | cons b bs=>cases ys with
    | nil=>exact h2.elim
    | cons y ys=>
     refine⟨λr hrr=>?_,ih bs ys h1.2 h2.2⟩;have:=h1.1.den (r:=ρ) (r':=r) (λk i hki=>by
      obtain⟨rfl,hlt⟩:=hix0 k i hki;exact(hrr k (filH k ss[k] (by simp[hlt]))).symm)
     rw[<-this];exact h2.1.self
 exact⟨H0,hargs _ _ _ hvs hx⟩
theorem q6x{g:FuncId}{fn:Func}{cd:Code}(ss:List jeo)(vs':List Value){R:Value->St->Prop}
  (hG:jey P G) (hm:P.follows .mixedOrders=true) (hf:P.funcs[g]?=some fn) (hb:fn.body=some cd)
  (hI:∀s∈ss,h₂[s.i]?=some (some s.c)) (hre:PartsRe (partX ss 0) ss) (hap:Apart ss) (hex:∀s∈ss,qx3 s) (hvs:All2 (Re2 (partX ss 0)) vs vs')
  (hwp:initK vs' fn.ntmps λt=>wpC P G ss.length cd (bodyQ P G fn R) ⟨t,partH ss⟩) (H:HOK X ρ h₂ w) (E:ExtOK X ρ h₂ w S) (hx:All2 (Den (Fil h₂) ρ) vs xs) :
  Calls P g ⟨xs⟩ w λe w'=>∃ρ1 v st x,e=.returned x/\HOK ⟨w,subM ρ S ss,ss.length,λk=>ρ (jg3 ss k)⟩ ρ1 st.h w'/\Den (Fil st.h) ρ1 v x/\R v st:=by
 obtain⟨H0,hargs⟩:=qk2 ss vs' hI hre hap hex hvs H E hx
 exact qfv (X:=⟨w,subM ρ S ss,ss.length,λk=>ρ (jg3 ss k)⟩) (args:=⟨xs⟩) hG hm hf hb H0 hargs hwp
def Selfish(x:Ext):Prop:=∀p S w,x.inv p S w->S p.1
open Classical in
theorem qns{hE:Hp}{V:Value}(ss:List jeo)(ns:List jfb)
  (hI:∀s∈ss,h₂[s.i]?=some (some s.c)) (hNw:∀n∈ns,h₂[n.i]?=some none) (hre:PartsRe (partX ss 0) ss) (hap:Apart ss) (hmi:∀n∈ns,n.d.own=true/\(0<n.d.n\/Selfish n.d.x)) (hne:∀n∈ns,∀m∈ns,(n.i=m.i\/n.k=m.k)->n=m) {w':World} {ρ1:Rz} {v x:Value} (H:HOK X ρ h₂ w) (E:ExtOK X ρ h₂ w S)
  (H1:HOK ⟨w,subM ρ S ss,ss.length,λk=>ρ (jg3 ss k)⟩ ρ1 hE w') (hdx:Den (Fil hE) ρ1 v x)
  (hV:Re (partX ss 0++madeX ns) V v) (hS:PostS (partX ss 0++madeX ns) hE ss 0) (hN:PostN (partX ss 0++madeX ns) hE ss.length ns)
  (hSx:∀(l:Nat)(s:jeo),ss[l]?=some s->s.e.own=true->s.d.x=Ext.none\/∃c,hE[l]?=some (some c)/\s.d.x=c.x) (hNx:∀n∈ns,n.d.x=Ext.none\/∃c,hE[n.k]?=some (some c)/\n.d.x=c.x) :
  ∃ρ',AgreeOn (Fil h₂) ρ ρ'/\HOK X ρ' (modH h₂ (partM ss++madeM ns)) w'/\Den (Fil (modH h₂ (partM ss++madeM ns))) ρ' V x:=by
 let σ:Nat->Nat:=jg3 ss
 have hσ:∀k s,ss[k]?=some s->σ k=s.i:=λk s hk=>by show(match ss[k]? with|some s=>s.i|none=>0)=s.i;rw[hk]
 let M':Addr->Prop:=subM ρ S ss
 have hsz:w.heap.size<=w'.heap.size:=H1.evo.size
 obtain⟨S1,E1⟩:=H1.ext
 have hbase:∀k s,ss[k]?=some s->Fil hE k/\ρ1 k=ρ s.i:=λk s hk=>by
  obtain⟨h1,h2⟩:=H1.base k (xg.1 hk).1
  grind
 have may:∀b,May ⟨w,M',ss.length,λk=>ρ (σ k)⟩ b->w.heap.size<=b\/∃s∈ss,s.e.own=true/\S s.i b:=λb hb=>by
  rcases hb with hb|⟨hb,_⟩
  .exact .inl hb
  grind[qnr]
 have mayX:∀b,(w.heap.size<=b\/∃s∈ss,s.e.own=true/\S s.i b)->May X b:=λb hb=>by
  rcases hb with hb|⟨s,hs,_,hb⟩
  .exact .inl (xC H.evo.size hb)
  .exact(E.mine _ _ b (hI s hs) hb).2.2
 have hnew:∀n∈ns,w.heap.size<=(ρ1 n.k).1\/∃s∈ss,s.e.own=true/\S s.i (ρ1 n.k).1:=λn hn=>by
  obtain⟨hk,c,hc,ho,hle,_⟩:=hN.at n hn;obtain⟨hdo,hpos⟩:=hmi n hn;rcases hpos with hpos|hself
  .rcases(H1.own n.k c hc (ho hdo) 0 (xl hpos hle)).2 with h|h|h
   .exact .inl h
   .obtain⟨_,s,hs,hso,hbl,_⟩:=h;obtain⟨l,hl,hlt⟩:=yF hs;have hl':ss[l]?=some s:=by rw[xt hl,hlt]
    obtain⟨⟨d,hd⟩,hρ⟩:=hbase l s hl';have:=H1.sep n.k c l d hc (ho hdo) hd Q8E;simp_all
   simp_all
  .rcases hNx n hn with e|⟨c',hc',e⟩
   .have:=hself (0,0) (λ_=>False) w (by rw[e];exact λ_ h=>h);simp_all
   .have:=hself _ _ _ (by rw[e];exact E1.inv _ _ hc');exact may _ (E1.mine _ _ _ hc' this).2.2
 let ρ':Nat->Nat×Nat:=λj=>if hj:∃n∈ns,n.i=j then ρ1 (Classical.choose hj).k else ρ j
 have ρnew:∀n∈ns,ρ' n.i=ρ1 n.k:=λn hn=>by
  have hj:∃m∈ns,m.i=n.i:=⟨n,hn,rfl⟩
  grind
 have ρold:∀j,Fil h₂ j->ρ' j=ρ j:=λj ⟨c,hc⟩=>by
  grind
 have filS:∀s∈ss,Fil h₂ s.i:=λs hs=>⟨_,hI s hs⟩
 let ms:Mz:=partM ss++madeM ns
 have fil:∀k,Fil h₂ k->Fil (modH h₂ ms) k:=λk hk=>hk.mod
 have filN:∀n∈ns,Fil (modH h₂ ms) n.i:=λn hn=>
  qtt (m:=(n.i,n.d)) (List.mem_append_right _ (madeM_mem.2 ⟨n,hn,rfl⟩)) (xg.1 (hNw n hn)).1
 have hix:∀k i,(k,i)∈partX ss 0++madeX ns->Fil (modH h₂ ms) i/\ρ' i=ρ1 k:=λk i hki=>by
  rcases yJ.1 hki with hki|hki
  .grind[qk0]
  .obtain⟨n,hn,rfl,rfl⟩:=madeX_mem.1 hki;simp_all
 have hden:∀r,AgreeOn (Fil (modH h₂ ms)) ρ' r->∀k i,(k,i)∈partX ss 0++madeX ns->r i=ρ1 k:=λr hrr k i hki=>by
  obtain⟨h1,h2⟩:=hix k i hki;exact(hrr i h1).trans h2
 have get:∀k e,(modH h₂ ms)[k]?=some (some e)->(∃(l:Nat)(s:jeo),ss[l]?=some s/\s.e.own=true/\s.i=k/\s.d=e)\/(∃n∈ns,n.i=k/\n.d=e)\/((∀s∈ss,s.e.own=true->s.i≠k)/\h₂[k]?=some (some e)):=λk e hk=>by
  rcases qnq hk with ⟨m,hm,h1,h2⟩|⟨h1,h2⟩
  .rcases yJ.1 hm with hm|hm
   .obtain⟨s,hs,ho,rfl⟩:=partM_mem.1 hm;obtain⟨l,hl,hlt⟩:=yF hs;exact .inl ⟨l,s,by rw[xt hl,hlt],ho,h1,h2⟩
   grind[madeM_mem]
  .exact .inr (.inr ⟨λs hs ho=>h1 _ (List.mem_append_left _ (partM_mem.2 ⟨s,hs,ho,rfl⟩)),h2⟩)
 let Inn:Nat->Nat->Prop:=λk l=>(∃s,ss[l]?=some s/\s.e.own=true/\s.i=k)\/∃n∈ns,n.i=k/\n.k=l
 have innU:∀k l l',Inn k l->Inn k l'->l=l':=λk l l' h1 h2=>by
  rcases h1 with ⟨s,hs,ho,rfl⟩|⟨n,hn,rfl,rfl⟩<;>rcases h2 with ⟨t,ht,ho',e⟩|⟨m,hm,e,rfl⟩
  .exact Classical.byContradiction λhll=>hap.at l l' s t hs ht hll ho e.symm
  .grind
  .grind
  grind
 have innV:∀k k' l,Inn k l->Inn k' l->k=k':=λk k' l h1 h2=>by
  rcases h1 with ⟨s,hs,ho,rfl⟩|⟨n,hn,rfl,rfl⟩<;>rcases h2 with ⟨t,ht,ho',e⟩|⟨m,hm,e,e'⟩
  .grind
  .have:=(hN.at m hm).1
   grind
  .have:=(hN.at n hn).1
   grind
  grind
 have inn:∀k e,(modH h₂ ms)[k]?=some (some e)->(∃l c,Inn k l/\hE[l]?=some (some c)/\ρ' k=ρ1 l/\(e.own=true->c.own=true)/\e.n<=c.n/\(∀j,j<e.n->Re1 (partX ss 0++madeX ns) (e.f j) (c.f j))/\(e.x=Ext.none\/e.x=c.x))\/((∀l,¬ Inn k l)/\(∀s∈ss,s.e.own=true->s.i≠k)/\h₂[k]?=some (some e)/\ρ' k=ρ k):=λk e hk=>by
  rcases get k e hk with ⟨l,s,hl,ho,rfl,rfl⟩|⟨n,hn,rfl,rfl⟩|⟨hnn,hk⟩
  .have hmem:=xL hl;obtain⟨c,hc,hoc,hle,hR⟩:=hS.at l s hl ho;rw[xr] at hc;refine .inl ⟨l,c,.inl ⟨s,hl,ho,rfl⟩,hc,?_,hoc,hle,hR,?_⟩
   .grind
   .rcases hSx l s hl ho with e|⟨c',hc',e⟩
    .exact .inl e
    grind
  .obtain⟨_,c,hc,hoc,hle,hR⟩:=hN.at n hn;refine .inl ⟨n.k,c,.inr ⟨n,hn,rfl,rfl⟩,hc,ρnew n hn,hoc,hle,hR,?_⟩;rcases hNx n hn with e|⟨c',hc',e⟩
   .exact .inl e
   grind
  .refine .inr ⟨λl hl=>?_,hnn,hk,ρold k ⟨e,hk⟩⟩
   grind
 have innIn:∀k l,Inn k l->∀b,(b=(ρ1 l).1\/∃c,hE[l]?=some (some c)/\S1 l b)->w.heap.size<=b\/(∃s∈ss,s.e.own=true/\S s.i b)\/∃s∈ss,s.e.own=true/\b=(ρ s.i).1:=λk l hl b hb=>by
  rcases hb with rfl|⟨c,hc,hb⟩
  .rcases hl with ⟨s,hs,ho,rfl⟩|⟨n,hn,rfl,rfl⟩
   .grind
   .rcases hnew n hn with h|h
    .exact .inl h
    .exact .inr (.inl h)
  .rcases may b (E1.mine l c b hc hb).2.2 with h|h
   .exact .inl h
   grind
 have out:∀b,b<w.heap.size->(∀s∈ss,s.e.own=true->b≠(ρ s.i).1/\¬ S s.i b)->w'.heap[b]?=w.heap[b]?:=λb hb hn=>
  H1.evo.same hb (λhm=>by obtain⟨s,hs,ho,h⟩:=qnr hm;exact(hn s hs ho).2 h) λj hm=>by
   rcases hm with ⟨_,s,hs,hso,hbl,_⟩|⟨s,hs,ho,h⟩
   .grind
   grind
 have apartO:∀k e,(∀s∈ss,s.e.own=true->s.i≠k)->h₂[k]?=some (some e)->∀s∈ss,s.e.own=true->(ρ k).1≠(ρ s.i).1/\¬ S s.i (ρ k).1:=λk e hnn hk s hs ho=>by
  refine⟨λe'=>H.sep _ _ _ _ (hI s hs) ((hre.at s hs).1 ho).1 hk (hnn s hs ho) e'.symm,λhb=>?_⟩;exact(E.apart _ _ _ _ _ (hI s hs) hb hk λe=>hnn s hs ho e.symm).1 rfl
 have apartS:∀k e b,(∀s∈ss,s.e.own=true->s.i≠k)->h₂[k]?=some (some e)->S k b->∀s∈ss,s.e.own=true->b≠(ρ s.i).1/\¬ S s.i b:=λk e b hnn hk hb s hs ho=>by
  obtain⟨h1,h2⟩:=E.apart _ _ b _ _ hk hb (hI s hs) (hnn s hs ho)
  grind
 have same:∀k c',h₂[k]?=some (some c')->(∀s∈ss,s.e.own=true->s.i≠k)->w'.heap[(ρ k).1]?=w.heap[(ρ k).1]?:=λk c' hk hnn=>
  out _ (H.lt _ _ hk) (apartO k c' hnn hk)
 refine⟨ρ',λk hk=>ρold k hk,?_,?_⟩
 .show HOK X ρ' (modH h₂ ms) w';refine⟨H.evo.into H1.evo (λp hp=>?_) λp j hj=>?_,λk hk=>⟨fil k (H.base k hk).1,(ρold k (H.base k hk).1).trans (H.base k hk).2⟩,λk e hk=>?_,λk e hk j hj=>?_,λk e hk hoe j hj=>?_,λk e l f' hk hoe hlf hnel=>?_,?_⟩
  .obtain⟨s,hs,ho,h⟩:=qnr hp;exact Q4J
  .rcases hj with ⟨_,s,hs,hso,hbl,h1,h2⟩|⟨s,hs,ho,h⟩
   .have hbl:p=(ρ s.i).1:=hbl;have h1:(ρ s.i).2<=j:=h1;have h2:j<(ρ s.i).2+s.c.n:=h2;have:=(H.own _ _ (hI s hs) ((hre.at s hs).1 hso).1 (j-(ρ s.i).2) Q8E).2;rw[show(ρ s.i).2+(j-(ρ s.i).2)=j by omega,<-hbl] at this;exact this
   .exact Q4J
  .rcases inn k e hk with ⟨l,c,_,hc,hρ,_⟩|⟨_,_,hk,hρ⟩
   .rw[hρ];exact H1.lt _ _ hc
   .rw[hρ];exact xl (H.lt _ _ hk) hsz
  .rcases inn k e hk with ⟨l,c,_,hc,hρ,_,hle,hR,_⟩|⟨_,hnn,hk,hρ⟩
   .obtain⟨y,hy,hdy⟩:=H1.cell l c hc j (xl hj hle);rw[hρ];exact⟨y,hy,λr hrr=>((hR j hj).den (hden r hrr)).trans hdy.self⟩
   .obtain⟨y,hy,hdy⟩:=H.cell _ _ hk j hj;rw[hρ];refine⟨y,?_,hdy.more (λi hi=>ρold i hi) fil⟩;have:=same k e hk hnn;rw[<-hy];unfold World.cell?;simp only[this]
  .rcases get k e hk with ⟨l,s,hl,ho,rfl,rfl⟩|⟨n,hn,rfl,rfl⟩|⟨hnn,hk⟩
   .have hmem:=xL hl;obtain⟨c,hc,hoc,hle,hR⟩:=hS.at l s hl ho;rw[xr] at hc;have h1:=(H1.own l c hc (hoc hoe) j (xl hj hle)).1;rw[(hbase l s hl).2] at h1;rw[ρold _ (filS s hmem)];obtain⟨hco,hdn⟩:=(hre.at s hmem).1 ho;exact⟨h1,(H.own _ _ (hI s hmem) hco j (xl hj hdn)).2⟩
   .obtain⟨_,c,hc,hoc,hle,_⟩:=hN.at n hn;rw[ρnew n hn];refine⟨(H1.own n.k c hc (hoc hoe) j (xl hj hle)).1,?_⟩;rcases mayX _ (hnew n hn) with h|h
    .exact .inl h
    .exact .inr (h.2 _)
   .obtain⟨hy,hdy⟩:=H.own _ _ hk hoe j hj;rw[ρold k ⟨e,hk⟩];refine⟨?_,hdy⟩;have:=same k e hk hnn;rw[<-hy];unfold World.frozen?;simp only[this]
  .rcases inn k e hk with ⟨i1,c,hi1,hc,hρ,hoc,_⟩|⟨hin,hnn,hk,hρ⟩<;>rcases inn l f' hlf with ⟨i2,c',hi2,hc',hρ2,_⟩|⟨hin2,hnn2,hlf,hρ2⟩
   .rw[hρ,hρ2];exact H1.sep _ _ _ _ hc (hoc hoe) hc' λei=>hnel (innV _ _ i1 hi1 (by rw[ei];exact hi2))
   .rw[hρ,hρ2];have h1:=H.lt _ _ hlf;have h2:=apartO l f' hnn2 hlf;rcases innIn _ _ hi1 _ (.inl rfl) with h|⟨s,hs,ho,h⟩|⟨s,hs,ho,h⟩
    .omega
    .exact λe=>(h2 s hs ho).2 (e▸h)
    .exact λe=>(h2 s hs ho).1 (e▸h)
   .rw[hρ,hρ2];have h1:=H.lt _ _ hk;have h2:=apartO k e hnn hk;rcases innIn _ _ hi2 _ (.inl rfl) with h|⟨s,hs,ho,h⟩|⟨s,hs,ho,h⟩
    .omega
    .exact λe=>(h2 s hs ho).2 (e.symm▸h)
    .exact λe=>(h2 s hs ho).1 (e.trans h)
   .rw[hρ,hρ2];exact H.sep _ _ _ _ hk hoe hlf hnel
  .refine⟨λk b=>∃e,(modH h₂ ms)[k]?=some (some e)/\e.x≠Ext.none/\((∃l,Inn k l/\S1 l b)\/((∀l,¬ Inn k l)/\S k b)),λk e hk=>?_,λk e b hk hS'=>?_,λk e b l d hk hS' hl hnel=>?_⟩
   .by_cases en:e.x=Ext.none
    .rw[en];rintro b ⟨e',he',h1,_⟩
     grind
    .rcases inn k e hk with ⟨l,c,hil,hc,hρ,_,_,_,hx⟩|⟨hin,hnn,hk2,hρ⟩
     .have:(λb=>∃e,(modH h₂ ms)[k]?=some (some e)/\e.x≠Ext.none/\((∃l,Inn k l/\S1 l b)\/((∀l,¬ Inn k l)/\S k b)))=S1 l:=by
       funext b;refine propext ⟨?_,λh=>⟨e,hk,en,.inl ⟨l,hil,h⟩⟩⟩;rintro⟨e',_,_,⟨l',hl',h⟩|⟨h,_⟩⟩
       .rw[innU k l l' hil hl'];exact h
       .exact absurd hil (h l)
      rw[this,hρ];rcases hx with hx|hx
      .exact absurd hx en
      .rw[hx];exact E1.inv l c hc
     .have:(λb=>∃e,(modH h₂ ms)[k]?=some (some e)/\e.x≠Ext.none/\((∃l,Inn k l/\S1 l b)\/((∀l,¬ Inn k l)/\S k b)))=S k:=by
       funext b;refine propext ⟨?_,λh=>⟨e,hk,en,.inr ⟨hin,h⟩⟩⟩;rintro⟨e',_,_,⟨l',hl',h⟩|⟨_,h⟩⟩
       .exact absurd hl' (hin l')
       .exact h
      rw[this,hρ];exact e.x.keep (E.inv k e hk2) λb hb=>out b (E.mine k e b hk2 hb).2.1 (apartS k e b hnn hk2 hb)
   .obtain⟨e',he',_,hS'⟩:=hS';rcases inn k e hk with ⟨l,c,hil,hc,hρ,_,hle,_,hx⟩|⟨hin,hnn,hk2,hρ⟩
    .rcases hS' with ⟨l',hl',hb⟩|⟨h,_⟩
     .obtain rfl:=innU k l l' hil hl';obtain⟨h1,h2,h3⟩:=E1.mine l c b hc hb;exact⟨by rw[hρ];omega,h2,mayX b (may b h3)⟩
     .exact absurd hil (h l)
    .rcases hS' with ⟨l',hl',hb⟩|⟨_,hb⟩
     .exact absurd hl' (hin l')
     .obtain⟨h1,h2,h3⟩:=E.mine k e b hk2 hb;exact⟨by rw[hρ];exact h1,xl h2 hsz,h3⟩
   .obtain⟨e',he',_,hS'⟩:=hS';have key:(ρ' l).1≠b/\¬ ((∃l',Inn l l'/\S1 l' b)\/((∀l',¬ Inn l l')/\S l b)):=by
     rcases inn k e hk with ⟨i1,c,hi1,hc,hρ,_⟩|⟨hin,hnn,hk2,hρ⟩<;>rcases inn l d hl with ⟨i2,c',hi2,hc',hρ2,_⟩|⟨hin2,hnn2,hl2,hρ2⟩
     .rcases hS' with ⟨l',hl',hb⟩|⟨h,_⟩
      .obtain rfl:=innU k i1 l' hi1 hl';obtain⟨h1,h2⟩:=E1.apart i1 c b i2 c' hc hb hc' λei=>hnel (innV _ _ i2 hi2 (by rw[ei];exact hi1))
       refine⟨by rw[hρ2];exact h1,?_⟩;rintro(⟨l'',hl'',hb'⟩|⟨h,_⟩)
       .obtain rfl:=innU l i2 l'' hi2 hl'';exact h2 hb'
       .exact h i2 hi2
      .exact absurd hi1 (h i1)
     .rcases hS' with ⟨l',hl',hb⟩|⟨h,_⟩
      .obtain rfl:=innU k i1 l' hi1 hl';have hb1:=may b (E1.mine i1 c b hc hb).2.2;refine⟨?_,?_⟩
       .rw[hρ2];rcases hb1 with h|⟨s,hs,ho,h⟩
        .have:=H.lt _ _ hl2;omega
        .exact λe=>(apartO l d hnn2 hl2 s hs ho).2 (e▸h)
       .rintro(⟨l'',hl'',hb'⟩|⟨_,hb'⟩)
        .exact hin2 l'' hl''
        .rcases hb1 with h|⟨s,hs,ho,h⟩
         .have:=(E.mine l d b hl2 hb').2.1;omega
         .exact(apartS l d b hnn2 hl2 hb' s hs ho).2 h
      .exact absurd hi1 (h i1)
     .rcases hS' with ⟨l',hl',hb⟩|⟨_,hb⟩
      .exact absurd hl' (hin l')
      .have hlt:=(E.mine k e b hk2 hb).2.1;have hap2:=apartS k e b hnn hk2 hb;refine⟨?_,?_⟩
       .rw[hρ2];intro e3;rcases innIn _ _ hi2 b (.inl e3.symm) with h|⟨s,hs,ho,h⟩|⟨s,hs,ho,h⟩
        .omega
        .exact(hap2 s hs ho).2 h
        .exact(hap2 s hs ho).1 h
       .rintro(⟨l'',hl'',hb'⟩|⟨h,_⟩)
        .obtain rfl:=innU l i2 l'' hi2 hl'';rcases innIn _ _ hi2 b (.inr ⟨c',hc',hb'⟩) with h|⟨s,hs,ho,h⟩|⟨s,hs,ho,h⟩
         .omega
         .exact(hap2 s hs ho).2 h
         .exact(hap2 s hs ho).1 h
        .exact h i2 hi2
     .rcases hS' with ⟨l',hl',hb⟩|⟨_,hb⟩
      .exact absurd hl' (hin l')
      .obtain⟨h1,h2⟩:=E.apart k e b l d hk2 hb hl2 hnel;refine⟨by rw[hρ2];exact h1,?_⟩;rintro(⟨l'',hl'',_⟩|⟨_,hb'⟩)
       .exact hin2 l'' hl''
       .exact h2 hb'
    exact⟨key.1,fun⟨_,_,_,h⟩=>key.2 h⟩
 .intro r hrr;rw[hV.den (hden r hrr)];exact hdx.self
def PartsN:List jeo->Prop
 | []=>True
 | s::r=>(s.e.x=Ext.none/\s.d.x=Ext.none)/\PartsN r
theorem PartsN.at:∀{ss:List jeo},PartsN ss->∀s∈ss,s.e.x=Ext.none/\s.d.x=Ext.none
 | t::r,hp,s,hs=>by
  rcases xi.1 hs with rfl|hs
  .exact hp.1
  .exact PartsN.at hp.2 s hs
theorem qak{g:FuncId}{fn:Func}{cd:Code}{h:Hp}{V:Value}(ss:List jeo)(ns:List jfb)(vs':List Value)
  (hG:jey P G) (hm:P.follows .mixedOrders=true) (hf:P.funcs[g]?=some fn) (hb:fn.body=some cd) (hr:∀xs w,(callFunc g xs).run P w=.ok (.enter g xs) w)
  (hin:PartsIn h ss) (hre:PartsRe (partX ss 0) ss) (hap:Apart ss) (hmi:MadeIn h ns) (hvs:All2 (Re2 (partX ss 0)) vs vs')
  (hwp:initK vs' fn.ntmps λt=>wpC P G ss.length cd (bodyQ P G fn λv st=>N (Obl (Re (partX ss 0++madeX ns) V v) (N (Obl (PostS (partX ss 0++madeX ns) st.h ss 0) (N (Obl (PostN (partX ss 0++madeX ns) st.h ss.length ns) (N True))))))) ⟨t,partH ss⟩)
  (hex:PartsN ss:=by(first|exact True.intro|exact⟨⟨rfl,rfl⟩,True.intro⟩|exact⟨⟨rfl,rfl⟩,⟨rfl,rfl⟩,True.intro⟩|exact⟨⟨rfl,rfl⟩,⟨rfl,rfl⟩,⟨rfl,rfl⟩,True.intro⟩|exact⟨⟨rfl,rfl⟩,⟨rfl,rfl⟩,⟨rfl,rfl⟩,⟨rfl,rfl⟩,True.intro⟩|exact⟨⟨rfl,rfl⟩,⟨rfl,rfl⟩,⟨rfl,rfl⟩,⟨rfl,rfl⟩,⟨rfl,rfl⟩,True.intro⟩|exact⟨⟨rfl,rfl⟩,⟨rfl,rfl⟩,⟨rfl,rfl⟩,⟨rfl,rfl⟩,⟨rfl,rfl⟩,⟨rfl,rfl⟩,True.intro⟩|exact⟨⟨rfl,rfl⟩,⟨rfl,rfl⟩,⟨rfl,rfl⟩,⟨rfl,rfl⟩,⟨rfl,rfl⟩,⟨rfl,rfl⟩,⟨rfl,rfl⟩,True.intro⟩|exact⟨⟨rfl,rfl⟩,⟨rfl,rfl⟩,⟨rfl,rfl⟩,⟨rfl,rfl⟩,⟨rfl,rfl⟩,⟨rfl,rfl⟩,⟨rfl,rfl⟩,⟨rfl,rfl⟩,True.intro⟩|exact⟨⟨rfl,rfl⟩,⟨rfl,rfl⟩,⟨rfl,rfl⟩,⟨rfl,rfl⟩,⟨rfl,rfl⟩,⟨rfl,rfl⟩,⟨rfl,rfl⟩,⟨rfl,rfl⟩,⟨rfl,rfl⟩,True.intro⟩|exact⟨⟨rfl,rfl⟩,⟨rfl,rfl⟩,⟨rfl,rfl⟩,⟨rfl,rfl⟩,⟨rfl,rfl⟩,⟨rfl,rfl⟩,⟨rfl,rfl⟩,⟨rfl,rfl⟩,⟨rfl,rfl⟩,⟨rfl,rfl⟩,True.intro⟩)) :
  qae P g vs h V (partM ss++madeM ns) (jhn ss):=λh₂ hrd hms X ρ w xs H hx=>by
 have hI:∀s∈ss,h₂[s.i]?=some (some s.c):=λs hs=>Q3a
 have hNw:∀n∈ns,h₂[n.i]?=some none:=λn hn=>(hms (n.i,n.d) (List.mem_append_right _ (madeM_mem.2 ⟨n,hn,rfl⟩))).trans (hmi.at n hn).1
 obtain⟨S,E⟩:=H.ext
 refine .inr ⟨hr _ w,?_⟩
 refine(q6x ss vs' hG hm hf hb hI hre hap (λs hs=>.inl (hex.at s hs).1) hvs hwp H E hx).mono ?_
 rintro e w' ⟨ρ1,v,st,x,rfl,H1,hdx,hq⟩
 have q1:Re (partX ss 0++madeX ns) V v/\N _:=N.out hq
 have q2:PostS (partX ss 0++madeX ns) st.h ss 0/\N _:=N.out q1.2
 have q3:PostN (partX ss 0++madeX ns) st.h ss.length ns/\N True:=N.out q2.2
 exact⟨x,rfl,qns ss ns hI hNw hre hap (λn hn=>⟨(hmi.at n hn).2.1,.inl (hmi.at n hn).2.2.1⟩) (λn hn m hm=>hmi.ne n hn m hm) H E H1 hdx q1.1 q2.1 q3.1 (λl s hl _=>.inl (hex.at s (xL hl)).2) λn hn=>.inl (hmi.at n hn).2.2.2⟩
def setD:List jeo->List Chunk->List jeo
 | [],_=>[]
 | s::r,[]=>s::setD r []
 | s::r,d::ds=>⟨s.i,s.c,s.e,d⟩::setD r ds
theorem qke:∀(ss:List jeo),setD ss []=ss
 | []=>rfl
 | s::r=>by simp[setD,qke r]
theorem qio{β:Type}(f:Nat->Chunk->Chunk->β):∀(ss:List jeo)(ds:List Chunk),(setD ss ds).map (λs=>f s.i s.c s.e)=ss.map (λs=>f s.i s.c s.e)
 | [],_=>rfl
 | s::r,[]=>by simp[setD,qke]
 | s::r,d::ds=>by simp only[setD,xq,qio f r ds]
theorem qtu(ss:List jeo)(ds:List Chunk):(setD ss ds).length=ss.length:=by
 have:=congrArg List.length (qio (λi _ _=>i) ss ds);simpa using this
theorem qqc:∀(ss:List jeo)(ds:List Chunk)(k:Nat),partX (setD ss ds) k=partX ss k
 | [],_,_=>rfl
 | s::r,[],k=>by rw[qke]
 | s::r,d::ds,k=>by simp only[setD,partX,qqc r ds]
variable{ds:List Chunk}
theorem qnt{s:jeo}(h:s∈setD ss ds):∃t∈ss,t.i=s.i/\t.c=s.c/\t.e=s.e:=by
 have:=qio (λi c e=>(i,c,e)) ss ds;have hm:(s.i,s.c,s.e)∈(setD ss ds).map (λs=>(s.i,s.c,s.e)):=xE.2 ⟨s,h,rfl⟩;simp_all
theorem qx4{t:jeo}(h:t∈ss):∃s∈setD ss ds,t.i=s.i/\t.c=s.c/\t.e=s.e:=by
 have:=qio (λi c e=>(i,c,e)) ss ds;have hm:(t.i,t.c,t.e)∈ss.map (λs=>(s.i,s.c,s.e)):=xE.2 ⟨t,h,rfl⟩
 grind
theorem ja1(ss:List jeo)(ds:List Chunk):jg3 (setD ss ds)=jg3 ss:=by
 funext k;have:=congrArg (λl=>l[k]?) (qio (λi _ _=>i) ss ds)
 grind[jg3]
theorem ja2(ρ:Rz)(S:Nat->Nat->Prop)(ss:List jeo)(ds:List Chunk):subM ρ S (setD ss ds)=subM ρ S ss:=by
 funext a;unfold subM;refine propext ⟨λh=>?_,λh=>?_⟩
 .grind[qnt]
 .rcases h with ⟨h,s,hs,h1⟩|⟨s,hs,h1⟩<;>obtain⟨t,ht,e1,e2,e3⟩:=qx4 (ds:=ds) hs
  .grind
  grind
theorem qmo:∀{ss:List jeo}{ds:List Chunk},Apart ss->Apart (setD ss ds)
 | [],_,_=>trivial
 | s::r,[],h=>by rw[qke];exact h
 | s::r,d::ds,h=>⟨λt ht ho=>by
   obtain⟨t',ht',e1,_,e3⟩:=qnt ht;have:=h.1 t' ht' (by rw[e3];exact ho);simp_all,qmo h.2⟩
def jj2{α:Type}(p:α->Prop):Prop:=∃κ,p κ
theorem Bt{α:Type}{p:α->Prop}(κ:α)(h:p κ):N (jj2 p):=N.mk ⟨κ,h⟩
end
theorem jep(n:Int)(h0 : -9223372036854775808<=n)(h1:n<9223372036854775808):IntKind.i64.wrap n=n:=by rw[xw];omega
theorem jfn{p:Prop}[Decidable p](h:b=true↔p):Value.bool b=.bool (decide p):=by
 grind
open Go
noncomputable def tys:Tys:=[(0,Tryz.t0,Tryz.t0.desc),
 (1,Tryz.t1,Tryz.t1.desc),
 (2,Tryz.t2,Tryz.t2.desc),
 (3,Tryz.t3,Tryz.t3.desc),
 (4,Tryz.t4,Tryz.t4.desc),
 (5,Tryz.t5,Tryz.t5.desc),
 (6,Tryz.t6,Tryz.t5.desc),
 (7,Tryz.t7,Tryz.t7.desc),
 (8,Tryz.t8,Tryz.t7.desc),
 (9,Tryz.t9,Tryz.t9.desc),
 (10,Tryz.t10,Tryz.t9.desc),
 (11,Tryz.t11,Tryz.t9.desc),
 (12,Tryz.t12,Tryz.t12.desc),
 (13,Tryz.t13,Tryz.t13.desc),
 (14,Tryz.t14,Tryz.t13.desc),
 (15,Tryz.t15,Tryz.t15.desc),
 (16,Tryz.t16,Tryz.t16.desc),
 (17,Tryz.t17,Tryz.t17.desc),
 (18,Tryz.t18,Tryz.t18.desc),
 (19,Tryz.t19,Tryz.t18.desc),
 (20,Tryz.t20,Tryz.t20.desc),
 (21,Tryz.t21,Tryz.t21.desc),
 (22,Tryz.t22,Tryz.t22.desc),
 (23,Tryz.t23,Tryz.t22.desc),
 (24,Tryz.t24,Tryz.t24.desc),
 (25,Tryz.t25,Tryz.t24.desc),
 (26,Tryz.t26,Tryz.t26.desc),
 (27,Tryz.t27,Tryz.t26.desc),
 (28,Tryz.t28,Tryz.t28.desc),
 (29,Tryz.t29,Tryz.t29.desc),
 (30,Tryz.t30,Tryz.t29.desc),
 (31,Tryz.t31,Tryz.t31.desc),
 (32,Tryz.t32,Tryz.t32.desc),
 (33,Tryz.t33,Tryz.t33.desc),
 (34,Tryz.t34,Tryz.t34.desc),
 (35,Tryz.t35,Tryz.t35.desc),
 (36,Tryz.t36,Tryz.t35.desc),
 (37,Tryz.t37,Tryz.t37.desc),
 (38,Tryz.t38,Tryz.t38.desc),
 (39,Tryz.t39,Tryz.t38.desc),
 (40,Tryz.t40,Tryz.t40.desc),
 (41,Tryz.t41,Tryz.t41.desc),
 (42,Tryz.t42,Tryz.t3.desc),
 (43,Tryz.t43,Tryz.t43.desc),
 (44,Tryz.t44,Tryz.t44.desc),
 (45,Tryz.t45,Tryz.t45.desc),
 (46,Tryz.t46,Tryz.t46.desc),
 (47,Tryz.t47,Tryz.t47.desc),
 (48,Tryz.t48,Tryz.t47.desc),
 (49,Tryz.t49,Tryz.t49.desc),
 (50,Tryz.t50,Tryz.t50.desc),
 (51,Tryz.t51,Tryz.t51.desc),
 (52,Tryz.t52,Tryz.t52.desc),
 (53,Tryz.t53,Tryz.t53.desc),
 (54,Tryz.t54,Tryz.t54.desc),
 (55,Tryz.t55,Tryz.t55.desc),
 (56,Tryz.t56,Tryz.t55.desc),
 (57,Tryz.t57,Tryz.t57.desc),
 (58,Tryz.t58,Tryz.t58.desc),
 (59,Tryz.t59,Tryz.t59.desc),
 (60,Tryz.t60,Tryz.t60.desc),
 (61,Tryz.t61,Tryz.t61.desc),
 (62,Tryz.t62,Tryz.t62.desc),
 (63,Tryz.t63,Tryz.t63.desc),
 (64,Tryz.t64,Tryz.t64.desc),
 (65,Tryz.t65,Tryz.t65.desc),
 (66,Tryz.t66,Tryz.t66.desc),
 (67,Tryz.t67,Tryz.t67.desc),
 (68,Tryz.t68,Tryz.t68.desc),
 (69,Tryz.t69,Tryz.t69.desc),
 (70,Tryz.t70,Tryz.t70.desc),
 (71,Tryz.t71,Tryz.t71.desc),
 (72,Tryz.t72,Tryz.t72.desc),
 (73,Tryz.t73,Tryz.t73.desc),
 (74,Tryz.t74,Tryz.t74.desc),
 (75,Tryz.t75,Tryz.t75.desc),
 (76,Tryz.t76,Tryz.t76.desc),
 (77,Tryz.t77,Tryz.t77.desc),
 (78,Tryz.t78,Tryz.t78.desc),
 (79,Tryz.t79,Tryz.t79.desc),
 (80,Tryz.t80,Tryz.t80.desc),
 (81,Tryz.t81,Tryz.t80.desc),
 (82,Tryz.t82,Tryz.t82.desc),
 (83,Tryz.t83,Tryz.t83.desc),
 (84,Tryz.t84,Tryz.t84.desc),
 (85,Tryz.t85,Tryz.t85.desc),
 (86,Tryz.t86,Tryz.t86.desc),
 (87,Tryz.t87,Tryz.t87.desc),
 (88,Tryz.t88,Tryz.t88.desc),
 (89,Tryz.t89,Tryz.t88.desc),
 (90,Tryz.t90,Tryz.t90.desc),
 (91,Tryz.t91,Tryz.t91.desc),
 (92,Tryz.t92,Tryz.t92.desc),
 (93,Tryz.t93,Tryz.t93.desc),
 (94,Tryz.t94,Tryz.t94.desc),
 (95,Tryz.t95,Tryz.t95.desc),
 (96,Tryz.t96,Tryz.t95.desc),
 (97,Tryz.t97,Tryz.t97.desc),
 (98,Tryz.t98,Tryz.t98.desc),
 (99,Tryz.t99,Tryz.t99.desc),
 (100,Tryz.t100,Tryz.t100.desc),
 (101,Tryz.t101,Tryz.t101.desc),
 (102,Tryz.t102,Tryz.t102.desc),
 (103,Tryz.t103,Tryz.t103.desc),
 (104,Tryz.t104,Tryz.t104.desc),
 (105,Tryz.t105,Tryz.t105.desc),
 (106,Tryz.t106,Tryz.t106.desc),
 (107,Tryz.t107,Tryz.t107.desc),
 (108,Tryz.t108,Tryz.t108.desc),
 (109,Tryz.t109,Tryz.t109.desc),
 (110,Tryz.t110,Tryz.t109.desc),
 (111,Tryz.t111,Tryz.t111.desc),
 (112,Tryz.t112,Tryz.t112.desc),
 (113,Tryz.t113,Tryz.t113.desc),
 (114,Tryz.t114,Tryz.t113.desc),
 (115,Tryz.t115,Tryz.t115.desc),
 (116,Tryz.t116,Tryz.t116.desc),
 (117,Tryz.t117,Tryz.t117.desc),
 (118,Tryz.t118,Tryz.t118.desc),
 (119,Tryz.t119,Tryz.t119.desc),
 (120,Tryz.t120,Tryz.t120.desc),
 (121,Tryz.t121,Tryz.t121.desc),
 (122,Tryz.t122,Tryz.t121.desc),
 (123,Tryz.t123,Tryz.t123.desc),
 (124,Tryz.t124,Tryz.t123.desc),
 (125,Tryz.t125,Tryz.t125.desc),
 (126,Tryz.t126,Tryz.t126.desc),
 (127,Tryz.t127,Tryz.t126.desc),
 (128,Tryz.t128,Tryz.t128.desc),
 (129,Tryz.t129,Tryz.t129.desc),
 (130,Tryz.t130,Tryz.t130.desc),
 (131,Tryz.t131,Tryz.t130.desc),
 (132,Tryz.t132,Tryz.t132.desc),
 (133,Tryz.t133,Tryz.t132.desc),
 (134,Tryz.t134,Tryz.t134.desc),
 (135,Tryz.t135,Tryz.t134.desc),
 (136,Tryz.t136,Tryz.t136.desc),
 (137,Tryz.t137,Tryz.t136.desc),
 (138,Tryz.t138,Tryz.t138.desc),
 (139,Tryz.t139,Tryz.t138.desc),
 (140,Tryz.t140,Tryz.t140.desc),
 (141,Tryz.t141,Tryz.t141.desc),
 (142,Tryz.t142,Tryz.t142.desc),
 (143,Tryz.t143,Tryz.t143.desc),
 (144,Tryz.t144,Tryz.t144.desc),
 (145,Tryz.t145,Tryz.t145.desc),
 (146,Tryz.t146,Tryz.t146.desc),
 (147,Tryz.t147,Tryz.t147.desc),
 (148,Tryz.t148,Tryz.t148.desc),
 (149,Tryz.t149,Tryz.t149.desc),
 (150,Tryz.t150,Tryz.t150.desc),
 (151,Tryz.t151,Tryz.t151.desc),
 (152,Tryz.t152,Tryz.t152.desc),
 (153,Tryz.t153,Tryz.t153.desc),
 (154,Tryz.t154,Tryz.t153.desc),
 (155,Tryz.t155,Tryz.t155.desc),
 (156,Tryz.t156,Tryz.t156.desc),
 (157,Tryz.t157,Tryz.t157.desc),
 (158,Tryz.t158,Tryz.t158.desc),
 (159,Tryz.t159,Tryz.t158.desc),
 (160,Tryz.t160,Tryz.t160.desc),
 (161,Tryz.t161,Tryz.t161.desc),
 (162,Tryz.t162,Tryz.t162.desc),
 (163,Tryz.t163,Tryz.t163.desc),
 (164,Tryz.t164,Tryz.t164.desc),
 (165,Tryz.t165,Tryz.t165.desc),
 (166,Tryz.t166,Tryz.t166.desc),
 (167,Tryz.t167,Tryz.t166.desc),
 (168,Tryz.t168,Tryz.t168.desc),
 (169,Tryz.t169,Tryz.t169.desc),
 (170,Tryz.t170,Tryz.t170.desc),
 (171,Tryz.t171,Tryz.t171.desc),
 (172,Tryz.t172,Tryz.t172.desc),
 (173,Tryz.t173,Tryz.t173.desc),
 (174,Tryz.t174,Tryz.t174.desc),
 (175,Tryz.t175,Tryz.t175.desc),
 (176,Tryz.t176,Tryz.t176.desc),
 (177,Tryz.t177,Tryz.t177.desc),
 (178,Tryz.t178,Tryz.t178.desc),
 (179,Tryz.t179,Tryz.t179.desc),
 (180,Tryz.t180,Tryz.t180.desc),
 (181,Tryz.t181,Tryz.t181.desc),
 (182,Tryz.t182,Tryz.t182.desc),
 (183,Tryz.t183,Tryz.t183.desc),
 (184,Tryz.t184,Tryz.t184.desc),
 (185,Tryz.t185,Tryz.t185.desc),
 (186,Tryz.t186,Tryz.t186.desc),
 (187,Tryz.t187,Tryz.t186.desc),
 (188,Tryz.t188,Tryz.t188.desc),
 (189,Tryz.t189,Tryz.t189.desc),
 (190,Tryz.t190,Tryz.t190.desc),
 (191,Tryz.t191,Tryz.t191.desc),
 (192,Tryz.t192,Tryz.t192.desc),
 (193,Tryz.t193,Tryz.t193.desc),
 (194,Tryz.t194,Tryz.t194.desc),
 (195,Tryz.t195,Tryz.t195.desc),
 (196,Tryz.t196,Tryz.t196.desc),
 (197,Tryz.t197,Tryz.t197.desc),
 (198,Tryz.t198,Tryz.t198.desc),
 (199,Tryz.t199,Tryz.t199.desc),
 (200,Tryz.t200,Tryz.t200.desc),
 (201,Tryz.t201,Tryz.t200.desc),
 (202,Tryz.t202,Tryz.t202.desc),
 (203,Tryz.t203,Tryz.t203.desc),
 (204,Tryz.t204,Tryz.t204.desc),
 (205,Tryz.t205,Tryz.t205.desc),
 (206,Tryz.t206,Tryz.t206.desc),
 (207,Tryz.t207,Tryz.t207.desc),
 (208,Tryz.t208,Tryz.t208.desc),
 (209,Tryz.t209,Tryz.t209.desc),
 (210,Tryz.t210,Tryz.t210.desc),
 (211,Tryz.t211,Tryz.t211.desc),
 (212,Tryz.t212,Tryz.t212.desc),
 (213,Tryz.t213,Tryz.t213.desc),
 (214,Tryz.t214,Tryz.t214.desc),
 (215,Tryz.t215,Tryz.t215.desc),
 (216,Tryz.t216,Tryz.t216.desc),
 (217,Tryz.t217,Tryz.t217.desc),
 (218,Tryz.t218,Tryz.t218.desc),
 (219,Tryz.t219,Tryz.t219.desc),
 (220,Tryz.t220,Tryz.t220.desc),
 (221,Tryz.t221,Tryz.t221.desc),
 (222,Tryz.t222,Tryz.t222.desc),
 (223,Tryz.t223,Tryz.t223.desc),
 (224,Tryz.t224,Tryz.t224.desc),
 (225,Tryz.t225,Tryz.t225.desc),
 (226,Tryz.t226,Tryz.t226.desc),
 (227,Tryz.t227,Tryz.t227.desc),
 (228,Tryz.t228,Tryz.t228.desc),
 (229,Tryz.t229,Tryz.t229.desc),
 (230,Tryz.t230,Tryz.t230.desc),
 (231,Tryz.t231,Tryz.t231.desc),
 (232,Tryz.t232,Tryz.t232.desc),
 (233,Tryz.t233,Tryz.t233.desc),
 (234,Tryz.t234,Tryz.t234.desc),
 (235,Tryz.t235,Tryz.t235.desc),
 (236,Tryz.t236,Tryz.t236.desc),
 (237,Tryz.t237,Tryz.t237.desc),
 (238,Tryz.t238,Tryz.t237.desc),
 (239,Tryz.t239,Tryz.t239.desc),
 (240,Tryz.t240,Tryz.t240.desc),
 (241,Tryz.t241,Tryz.t241.desc),
 (242,Tryz.t242,Tryz.t242.desc),
 (243,Tryz.t243,Tryz.t243.desc),
 (244,Tryz.t244,Tryz.t244.desc),
 (245,Tryz.t245,Tryz.t245.desc),
 (246,Tryz.t246,Tryz.t246.desc),
 (247,Tryz.t247,Tryz.t3.desc),
 (248,Tryz.t248,Tryz.t248.desc),
 (249,Tryz.t249,Tryz.t249.desc),
 (250,Tryz.t250,Tryz.t250.desc),
 (251,Tryz.t251,Tryz.t251.desc),
 (252,Tryz.t252,Tryz.t252.desc),
 (253,Tryz.t253,Tryz.t253.desc),
 (254,Tryz.t254,Tryz.t254.desc),
 (255,Tryz.t255,Tryz.t255.desc),
 (256,Tryz.t256,Tryz.t256.desc),
 (257,Tryz.t257,Tryz.t257.desc),
 (258,Tryz.t258,Tryz.t258.desc),
 (259,Tryz.t259,Tryz.t259.desc),
 (260,Tryz.t260,Tryz.t259.desc),
 (261,Tryz.t261,Tryz.t261.desc),
 (262,Tryz.t262,Tryz.t262.desc),
 (263,Tryz.t263,Tryz.t263.desc),
 (264,Tryz.t264,Tryz.t264.desc),
 (265,Tryz.t265,Tryz.t265.desc),
 (266,Tryz.t266,Tryz.t266.desc),
 (267,Tryz.t267,Tryz.t267.desc),
 (268,Tryz.t268,Tryz.t267.desc),
 (269,Tryz.t269,Tryz.t269.desc),
 (270,Tryz.t270,Tryz.t270.desc),
 (271,Tryz.t271,Tryz.t271.desc),
 (272,Tryz.t272,Tryz.t58.desc),
 (273,Tryz.t273,Tryz.t273.desc),
 (274,Tryz.t274,Tryz.t274.desc),
 (275,Tryz.t275,Tryz.t275.desc),
 (276,Tryz.t276,Tryz.t276.desc),
 (277,Tryz.t277,Tryz.t277.desc),
 (278,Tryz.t278,Tryz.t278.desc),
 (279,Tryz.t279,Tryz.t279.desc),
 (280,Tryz.t280,Tryz.t279.desc),
 (281,Tryz.t281,Tryz.t281.desc),
 (282,Tryz.t282,Tryz.t281.desc),
 (283,Tryz.t283,Tryz.t283.desc),
 (284,Tryz.t284,Tryz.t284.desc),
 (285,Tryz.t285,Tryz.t285.desc),
 (286,Tryz.t286,Tryz.t286.desc),
 (287,Tryz.t287,Tryz.t287.desc),
 (288,Tryz.t288,Tryz.t288.desc),
 (289,Tryz.t289,Tryz.t289.desc),
 (290,Tryz.t290,Tryz.t290.desc),
 (291,Tryz.t291,Tryz.t291.desc),
 (292,Tryz.t292,Tryz.t292.desc),
 (293,Tryz.t293,Tryz.t293.desc),
 (294,Tryz.t294,Tryz.t294.desc),
 (295,Tryz.t295,Tryz.t295.desc),
 (296,Tryz.t296,Tryz.t296.desc),
 (297,Tryz.t297,Tryz.t297.desc),
 (298,Tryz.t298,Tryz.t298.desc),
 (299,Tryz.t299,Tryz.t299.desc),
 (300,Tryz.t300,Tryz.t300.desc),
 (301,Tryz.t301,Tryz.t301.desc),
 (302,Tryz.t302,Tryz.t302.desc),
 (303,Tryz.t303,Tryz.t303.desc),
 (304,Tryz.t304,Tryz.t304.desc),
 (305,Tryz.t305,Tryz.t305.desc),
 (306,Tryz.t306,Tryz.t306.desc),
 (307,Tryz.t307,Tryz.t307.desc),
 (308,Tryz.t308,Tryz.t308.desc),
 (309,Tryz.t309,Tryz.t309.desc),
 (310,Tryz.t310,Tryz.t310.desc),
 (311,Tryz.t311,Tryz.t311.desc),
 (312,Tryz.t312,Tryz.t312.desc),
 (313,Tryz.t313,Tryz.t313.desc),
 (314,Tryz.t314,Tryz.t314.desc),
 (315,Tryz.t315,Tryz.t315.desc),
 (316,Tryz.t316,Tryz.t316.desc),
 (317,Tryz.t317,Tryz.t317.desc),
 (318,Tryz.t318,Tryz.t317.desc),
 (319,Tryz.t319,Tryz.t319.desc),
 (320,Tryz.t320,Tryz.t320.desc),
 (321,Tryz.t321,Tryz.t321.desc),
 (322,Tryz.t322,Tryz.t322.desc),
 (323,Tryz.t323,Tryz.t323.desc),
 (324,Tryz.t324,Tryz.t324.desc),
 (325,Tryz.t325,Tryz.t324.desc),
 (326,Tryz.t326,Tryz.t326.desc),
 (327,Tryz.t327,Tryz.t327.desc),
 (328,Tryz.t328,Tryz.t327.desc),
 (329,Tryz.t329,Tryz.t5.desc),
 (330,Tryz.t330,Tryz.t5.desc),
 (331,Tryz.t331,Tryz.t331.desc),
 (332,Tryz.t332,Tryz.t332.desc),
 (333,Tryz.t333,Tryz.t21.desc),
 (334,Tryz.t334,Tryz.t21.desc),
 (335,Tryz.t335,Tryz.t335.desc),
 (336,Tryz.t336,Tryz.t335.desc),
 (337,Tryz.t337,Tryz.t337.desc),
 (338,Tryz.t338,Tryz.t337.desc),
 (339,Tryz.t339,Tryz.t339.desc)]
theorem tysOK:jey prog tys:=TysAll.ok (
 ⟨⟨type0,underlying0⟩,
 ⟨⟨type1,underlying1⟩,
 ⟨⟨type2,underlying2⟩,
 ⟨⟨type3,underlying3⟩,
 ⟨⟨type4,underlying4⟩,
 ⟨⟨type5,underlying5⟩,
 ⟨⟨type6,underlying6⟩,
 ⟨⟨type7,underlying7⟩,
 ⟨⟨type8,underlying8⟩,
 ⟨⟨type9,underlying9⟩,
 ⟨⟨type10,underlying10⟩,
 ⟨⟨type11,underlying11⟩,
 ⟨⟨type12,underlying12⟩,
 ⟨⟨type13,underlying13⟩,
 ⟨⟨type14,underlying14⟩,
 ⟨⟨type15,underlying15⟩,
 ⟨⟨type16,underlying16⟩,
 ⟨⟨type17,underlying17⟩,
 ⟨⟨type18,underlying18⟩,
 ⟨⟨type19,underlying19⟩,
 ⟨⟨type20,underlying20⟩,
 ⟨⟨type21,underlying21⟩,
 ⟨⟨type22,underlying22⟩,
 ⟨⟨type23,underlying23⟩,
 ⟨⟨type24,underlying24⟩,
 ⟨⟨type25,underlying25⟩,
 ⟨⟨type26,underlying26⟩,
 ⟨⟨type27,underlying27⟩,
 ⟨⟨type28,underlying28⟩,
 ⟨⟨type29,underlying29⟩,
 ⟨⟨type30,underlying30⟩,
 ⟨⟨type31,underlying31⟩,
 ⟨⟨type32,underlying32⟩,
 ⟨⟨type33,underlying33⟩,
 ⟨⟨type34,underlying34⟩,
 ⟨⟨type35,underlying35⟩,
 ⟨⟨type36,underlying36⟩,
 ⟨⟨type37,underlying37⟩,
 ⟨⟨type38,underlying38⟩,
 ⟨⟨type39,underlying39⟩,
 ⟨⟨type40,underlying40⟩,
 ⟨⟨type41,underlying41⟩,
 ⟨⟨type42,underlying42⟩,
 ⟨⟨type43,underlying43⟩,
 ⟨⟨type44,underlying44⟩,
 ⟨⟨type45,underlying45⟩,
 ⟨⟨type46,underlying46⟩,
 ⟨⟨type47,underlying47⟩,
 ⟨⟨type48,underlying48⟩,
 ⟨⟨type49,underlying49⟩,
 ⟨⟨type50,underlying50⟩,
 ⟨⟨type51,underlying51⟩,
 ⟨⟨type52,underlying52⟩,
 ⟨⟨type53,underlying53⟩,
 ⟨⟨type54,underlying54⟩,
 ⟨⟨type55,underlying55⟩,
 ⟨⟨type56,underlying56⟩,
 ⟨⟨type57,underlying57⟩,
 ⟨⟨type58,underlying58⟩,
 ⟨⟨type59,underlying59⟩,
 ⟨⟨type60,underlying60⟩,
 ⟨⟨type61,underlying61⟩,
 ⟨⟨type62,underlying62⟩,
 ⟨⟨type63,underlying63⟩,
 ⟨⟨type64,underlying64⟩,
 ⟨⟨type65,underlying65⟩,
 ⟨⟨type66,underlying66⟩,
 ⟨⟨type67,underlying67⟩,
 ⟨⟨type68,underlying68⟩,
 ⟨⟨type69,underlying69⟩,
 ⟨⟨type70,underlying70⟩,
 ⟨⟨type71,underlying71⟩,
 ⟨⟨type72,underlying72⟩,
 ⟨⟨type73,underlying73⟩,
 ⟨⟨type74,underlying74⟩,
 ⟨⟨type75,underlying75⟩,
 ⟨⟨type76,underlying76⟩,
 ⟨⟨type77,underlying77⟩,
 ⟨⟨type78,underlying78⟩,
 ⟨⟨type79,underlying79⟩,
 ⟨⟨type80,underlying80⟩,
 ⟨⟨type81,underlying81⟩,
 ⟨⟨type82,underlying82⟩,
 ⟨⟨type83,underlying83⟩,
 ⟨⟨type84,underlying84⟩,
 ⟨⟨type85,underlying85⟩,
 ⟨⟨type86,underlying86⟩,
 ⟨⟨type87,underlying87⟩,
 ⟨⟨type88,underlying88⟩,
 ⟨⟨type89,underlying89⟩,
 ⟨⟨type90,underlying90⟩,
 ⟨⟨type91,underlying91⟩,
 ⟨⟨type92,underlying92⟩,
 ⟨⟨type93,underlying93⟩,
 ⟨⟨type94,underlying94⟩,
 ⟨⟨type95,underlying95⟩,
 ⟨⟨type96,underlying96⟩,
 ⟨⟨type97,underlying97⟩,
 ⟨⟨type98,underlying98⟩,
 ⟨⟨type99,underlying99⟩,
 ⟨⟨type100,underlying100⟩,
 ⟨⟨type101,underlying101⟩,
 ⟨⟨type102,underlying102⟩,
 ⟨⟨type103,underlying103⟩,
 ⟨⟨type104,underlying104⟩,
 ⟨⟨type105,underlying105⟩,
 ⟨⟨type106,underlying106⟩,
 ⟨⟨type107,underlying107⟩,
 ⟨⟨type108,underlying108⟩,
 ⟨⟨type109,underlying109⟩,
 ⟨⟨type110,underlying110⟩,
 ⟨⟨type111,underlying111⟩,
 ⟨⟨type112,underlying112⟩,
 ⟨⟨type113,underlying113⟩,
 ⟨⟨type114,underlying114⟩,
 ⟨⟨type115,underlying115⟩,
 ⟨⟨type116,underlying116⟩,
 ⟨⟨type117,underlying117⟩,
 ⟨⟨type118,underlying118⟩,
 ⟨⟨type119,underlying119⟩,
 ⟨⟨type120,underlying120⟩,
 ⟨⟨type121,underlying121⟩,
 ⟨⟨type122,underlying122⟩,
 ⟨⟨type123,underlying123⟩,
 ⟨⟨type124,underlying124⟩,
 ⟨⟨type125,underlying125⟩,
 ⟨⟨type126,underlying126⟩,
 ⟨⟨type127,underlying127⟩,
 ⟨⟨type128,underlying128⟩,
 ⟨⟨type129,underlying129⟩,
 ⟨⟨type130,underlying130⟩,
 ⟨⟨type131,underlying131⟩,
 ⟨⟨type132,underlying132⟩,
 ⟨⟨type133,underlying133⟩,
 ⟨⟨type134,underlying134⟩,
 ⟨⟨type135,underlying135⟩,
 ⟨⟨type136,underlying136⟩,
 ⟨⟨type137,underlying137⟩,
 ⟨⟨type138,underlying138⟩,
 ⟨⟨type139,underlying139⟩,
 ⟨⟨type140,underlying140⟩,
 ⟨⟨type141,underlying141⟩,
 ⟨⟨type142,underlying142⟩,
 ⟨⟨type143,underlying143⟩,
 ⟨⟨type144,underlying144⟩,
 ⟨⟨type145,underlying145⟩,
 ⟨⟨type146,underlying146⟩,
 ⟨⟨type147,underlying147⟩,
 ⟨⟨type148,underlying148⟩,
 ⟨⟨type149,underlying149⟩,
 ⟨⟨type150,underlying150⟩,
 ⟨⟨type151,underlying151⟩,
 ⟨⟨type152,underlying152⟩,
 ⟨⟨type153,underlying153⟩,
 ⟨⟨type154,underlying154⟩,
 ⟨⟨type155,underlying155⟩,
 ⟨⟨type156,underlying156⟩,
 ⟨⟨type157,underlying157⟩,
 ⟨⟨type158,underlying158⟩,
 ⟨⟨type159,underlying159⟩,
 ⟨⟨type160,underlying160⟩,
 ⟨⟨type161,underlying161⟩,
 ⟨⟨type162,underlying162⟩,
 ⟨⟨type163,underlying163⟩,
 ⟨⟨type164,underlying164⟩,
 ⟨⟨type165,underlying165⟩,
 ⟨⟨type166,underlying166⟩,
 ⟨⟨type167,underlying167⟩,
 ⟨⟨type168,underlying168⟩,
 ⟨⟨type169,underlying169⟩,
 ⟨⟨type170,underlying170⟩,
 ⟨⟨type171,underlying171⟩,
 ⟨⟨type172,underlying172⟩,
 ⟨⟨type173,underlying173⟩,
 ⟨⟨type174,underlying174⟩,
 ⟨⟨type175,underlying175⟩,
 ⟨⟨type176,underlying176⟩,
 ⟨⟨type177,underlying177⟩,
 ⟨⟨type178,underlying178⟩,
 ⟨⟨type179,underlying179⟩,
 ⟨⟨type180,underlying180⟩,
 ⟨⟨type181,underlying181⟩,
 ⟨⟨type182,underlying182⟩,
 ⟨⟨type183,underlying183⟩,
 ⟨⟨type184,underlying184⟩,
 ⟨⟨type185,underlying185⟩,
 ⟨⟨type186,underlying186⟩,
 ⟨⟨type187,underlying187⟩,
 ⟨⟨type188,underlying188⟩,
 ⟨⟨type189,underlying189⟩,
 ⟨⟨type190,underlying190⟩,
 ⟨⟨type191,underlying191⟩,
 ⟨⟨type192,underlying192⟩,
 ⟨⟨type193,underlying193⟩,
 ⟨⟨type194,underlying194⟩,
 ⟨⟨type195,underlying195⟩,
 ⟨⟨type196,underlying196⟩,
 ⟨⟨type197,underlying197⟩,
 ⟨⟨type198,underlying198⟩,
 ⟨⟨type199,underlying199⟩,
 ⟨⟨type200,underlying200⟩,
 ⟨⟨type201,underlying201⟩,
 ⟨⟨type202,underlying202⟩,
 ⟨⟨type203,underlying203⟩,
 ⟨⟨type204,underlying204⟩,
 ⟨⟨type205,underlying205⟩,
 ⟨⟨type206,underlying206⟩,
 ⟨⟨type207,underlying207⟩,
 ⟨⟨type208,underlying208⟩,
 ⟨⟨type209,underlying209⟩,
 ⟨⟨type210,underlying210⟩,
 ⟨⟨type211,underlying211⟩,
 ⟨⟨type212,underlying212⟩,
 ⟨⟨type213,underlying213⟩,
 ⟨⟨type214,underlying214⟩,
 ⟨⟨type215,underlying215⟩,
 ⟨⟨type216,underlying216⟩,
 ⟨⟨type217,underlying217⟩,
 ⟨⟨type218,underlying218⟩,
 ⟨⟨type219,underlying219⟩,
 ⟨⟨type220,underlying220⟩,
 ⟨⟨type221,underlying221⟩,
 ⟨⟨type222,underlying222⟩,
 ⟨⟨type223,underlying223⟩,
 ⟨⟨type224,underlying224⟩,
 ⟨⟨type225,underlying225⟩,
 ⟨⟨type226,underlying226⟩,
 ⟨⟨type227,underlying227⟩,
 ⟨⟨type228,underlying228⟩,
 ⟨⟨type229,underlying229⟩,
 ⟨⟨type230,underlying230⟩,
 ⟨⟨type231,underlying231⟩,
 ⟨⟨type232,underlying232⟩,
 ⟨⟨type233,underlying233⟩,
 ⟨⟨type234,underlying234⟩,
 ⟨⟨type235,underlying235⟩,
 ⟨⟨type236,underlying236⟩,
 ⟨⟨type237,underlying237⟩,
 ⟨⟨type238,underlying238⟩,
 ⟨⟨type239,underlying239⟩,
 ⟨⟨type240,underlying240⟩,
 ⟨⟨type241,underlying241⟩,
 ⟨⟨type242,underlying242⟩,
 ⟨⟨type243,underlying243⟩,
 ⟨⟨type244,underlying244⟩,
 ⟨⟨type245,underlying245⟩,
 ⟨⟨type246,underlying246⟩,
 ⟨⟨type247,underlying247⟩,
 ⟨⟨type248,underlying248⟩,
 ⟨⟨type249,underlying249⟩,
 ⟨⟨type250,underlying250⟩,
 ⟨⟨type251,underlying251⟩,
 ⟨⟨type252,underlying252⟩,
 ⟨⟨type253,underlying253⟩,
 ⟨⟨type254,underlying254⟩,
 ⟨⟨type255,underlying255⟩,
 ⟨⟨type256,underlying256⟩,
 ⟨⟨type257,underlying257⟩,
 ⟨⟨type258,underlying258⟩,
 ⟨⟨type259,underlying259⟩,
 ⟨⟨type260,underlying260⟩,
 ⟨⟨type261,underlying261⟩,
 ⟨⟨type262,underlying262⟩,
 ⟨⟨type263,underlying263⟩,
 ⟨⟨type264,underlying264⟩,
 ⟨⟨type265,underlying265⟩,
 ⟨⟨type266,underlying266⟩,
 ⟨⟨type267,underlying267⟩,
 ⟨⟨type268,underlying268⟩,
 ⟨⟨type269,underlying269⟩,
 ⟨⟨type270,underlying270⟩,
 ⟨⟨type271,underlying271⟩,
 ⟨⟨type272,underlying272⟩,
 ⟨⟨type273,underlying273⟩,
 ⟨⟨type274,underlying274⟩,
 ⟨⟨type275,underlying275⟩,
 ⟨⟨type276,underlying276⟩,
 ⟨⟨type277,underlying277⟩,
 ⟨⟨type278,underlying278⟩,
 ⟨⟨type279,underlying279⟩,
 ⟨⟨type280,underlying280⟩,
 ⟨⟨type281,underlying281⟩,
 ⟨⟨type282,underlying282⟩,
 ⟨⟨type283,underlying283⟩,
 ⟨⟨type284,underlying284⟩,
 ⟨⟨type285,underlying285⟩,
 ⟨⟨type286,underlying286⟩,
 ⟨⟨type287,underlying287⟩,
 ⟨⟨type288,underlying288⟩,
 ⟨⟨type289,underlying289⟩,
 ⟨⟨type290,underlying290⟩,
 ⟨⟨type291,underlying291⟩,
 ⟨⟨type292,underlying292⟩,
 ⟨⟨type293,underlying293⟩,
 ⟨⟨type294,underlying294⟩,
 ⟨⟨type295,underlying295⟩,
 ⟨⟨type296,underlying296⟩,
 ⟨⟨type297,underlying297⟩,
 ⟨⟨type298,underlying298⟩,
 ⟨⟨type299,underlying299⟩,
 ⟨⟨type300,underlying300⟩,
 ⟨⟨type301,underlying301⟩,
 ⟨⟨type302,underlying302⟩,
 ⟨⟨type303,underlying303⟩,
 ⟨⟨type304,underlying304⟩,
 ⟨⟨type305,underlying305⟩,
 ⟨⟨type306,underlying306⟩,
 ⟨⟨type307,underlying307⟩,
 ⟨⟨type308,underlying308⟩,
 ⟨⟨type309,underlying309⟩,
 ⟨⟨type310,underlying310⟩,
 ⟨⟨type311,underlying311⟩,
 ⟨⟨type312,underlying312⟩,
 ⟨⟨type313,underlying313⟩,
 ⟨⟨type314,underlying314⟩,
 ⟨⟨type315,underlying315⟩,
 ⟨⟨type316,underlying316⟩,
 ⟨⟨type317,underlying317⟩,
 ⟨⟨type318,underlying318⟩,
 ⟨⟨type319,underlying319⟩,
 ⟨⟨type320,underlying320⟩,
 ⟨⟨type321,underlying321⟩,
 ⟨⟨type322,underlying322⟩,
 ⟨⟨type323,underlying323⟩,
 ⟨⟨type324,underlying324⟩,
 ⟨⟨type325,underlying325⟩,
 ⟨⟨type326,underlying326⟩,
 ⟨⟨type327,underlying327⟩,
 ⟨⟨type328,underlying328⟩,
 ⟨⟨type329,underlying329⟩,
 ⟨⟨type330,underlying330⟩,
 ⟨⟨type331,underlying331⟩,
 ⟨⟨type332,underlying332⟩,
 ⟨⟨type333,underlying333⟩,
 ⟨⟨type334,underlying334⟩,
 ⟨⟨type335,underlying335⟩,
 ⟨⟨type336,underlying336⟩,
 ⟨⟨type337,underlying337⟩,
 ⟨⟨type338,underlying338⟩,
 ⟨⟨type339,underlying339⟩,xb⟩⟩⟩⟩⟩⟩⟩⟩⟩⟩⟩⟩⟩⟩⟩⟩⟩⟩⟩⟩⟩⟩⟩⟩⟩⟩⟩⟩⟩⟩⟩⟩⟩⟩⟩⟩⟩⟩⟩⟩⟩⟩⟩⟩⟩⟩⟩⟩⟩⟩⟩⟩⟩⟩⟩⟩⟩⟩⟩⟩⟩⟩⟩⟩⟩⟩⟩⟩⟩⟩⟩⟩⟩⟩⟩⟩⟩⟩⟩⟩⟩⟩⟩⟩⟩⟩⟩⟩⟩⟩⟩⟩⟩⟩⟩⟩⟩⟩⟩⟩⟩⟩⟩⟩⟩⟩⟩⟩⟩⟩⟩⟩⟩⟩⟩⟩⟩⟩⟩⟩⟩⟩⟩⟩⟩⟩⟩⟩⟩⟩⟩⟩⟩⟩⟩⟩⟩⟩⟩⟩⟩⟩⟩⟩⟩⟩⟩⟩⟩⟩⟩⟩⟩⟩⟩⟩⟩⟩⟩⟩⟩⟩⟩⟩⟩⟩⟩⟩⟩⟩⟩⟩⟩⟩⟩⟩⟩⟩⟩⟩⟩⟩⟩⟩⟩⟩⟩⟩⟩⟩⟩⟩⟩⟩⟩⟩⟩⟩⟩⟩⟩⟩⟩⟩⟩⟩⟩⟩⟩⟩⟩⟩⟩⟩⟩⟩⟩⟩⟩⟩⟩⟩⟩⟩⟩⟩⟩⟩⟩⟩⟩⟩⟩⟩⟩⟩⟩⟩⟩⟩⟩⟩⟩⟩⟩⟩⟩⟩⟩⟩⟩⟩⟩⟩⟩⟩⟩⟩⟩⟩⟩⟩⟩⟩⟩⟩⟩⟩⟩⟩⟩⟩⟩⟩⟩⟩⟩⟩⟩⟩⟩⟩⟩⟩⟩⟩⟩⟩⟩⟩⟩⟩⟩⟩⟩⟩⟩⟩⟩⟩⟩⟩⟩⟩⟩⟩⟩⟩⟩⟩⟩⟩⟩⟩⟩⟩⟩⟩⟩⟩⟩⟩⟩⟩⟩⟩⟩⟩⟩⟩⟩⟩⟩⟩⟩⟩⟩⟩⟩⟩)
theorem mixed:prog.follows .mixedOrders=true:=by kernel_rfl
end Go.Proofs.YtfkngpmgcimdbaaGreat.Sx


namespace Go.Proofs.YtfkngpmgcimdbaaGreat
open Go Go.RowKit Sx
variable{ts:Array TypeId}{k:IntKind}{K:Value->Prop}
theorem N.min2{t:TypeId}{x y:Int}(h:K (.int k (min x y))):N (qs9 prog .min ts t [.int k x,.int k y] K):=by
 refine N.mk ⟨.int k (min x y),⟨rfl,rfl,λcs w=>?_⟩,h⟩;have e:(if y<x then y else x)=min x y:=by split<;>omega
 show(do pure (Next.value (<-Builtin.min_ ts t #[.int k x,.int k y])):Sem _).run prog w=_;rw[Sem.run_bind,run_min_int2,e];rfl
theorem N.max2{t:TypeId}{x y:Int}(h:K (.int k (max x y))):N (qs9 prog .max ts t [.int k x,.int k y] K):=by
 refine N.mk ⟨.int k (max x y),⟨rfl,rfl,λcs w=>?_⟩,h⟩;have e:(if y > x then y else x)=max x y:=by split<;>omega
 show(do pure (Next.value (<-Builtin.max_ ts t #[.int k x,.int k y])):Sem _).run prog w=_;rw[Sem.run_bind,run_max_int2,e];rfl
noncomputable def Roll(A:jfx)(Q:Exit->St->Prop)(k:Nat):St->Prop:=Nat.rec (motive:=λ_=>St->Prop) (λ_=>False) (λ_ W st=>A (thenQ W Q) st) k
theorem Bp{P:Program}{G:Tys}{n0:Nat}{c:Code}{A:(Exit->St->Prop)->St->Prop}{Q:Exit->St->Prop}{st:St}(k:Nat)(h:Roll A Q k st):N (jhm P G n0 c A Q st):=
 N.mk ⟨(k:Nat)×{s:St // Roll A Q k s},λx=>x.2.1,λ_=>True,λx=>x.1,λx s=>∃j,x.1=j+1/\Roll A Q j s,λx s hx=>by
  obtain⟨j,hj,hr⟩:=hx;refine⟨⟨j,s,hr⟩,xb,?_,by show j<x.1;omega⟩;exact(Wk.refl _ _).g,⟨⟨k,st,h⟩,xb,(Wk.refl _ _).g⟩,λx _=>by
  obtain⟨k,s,hs⟩:=x;cases k with
  | zero=>exact hs.elim
  | succ j=>
   have:(λs'=>∃i,j+1=i+1/\Roll A Q i s')=Roll A Q j:=by
    funext s';refine propext ⟨fun⟨i,hi,hr⟩=>?_,λhr=>⟨j,rfl,hr⟩⟩;have:j=i:=by simpa using hi
    subst this;exact hr
   show A (thenQ (λs'=>∃i,j+1=i+1/\Roll A Q i s') Q) s;rw[this];exact hs⟩
theorem Tryz.own:ownKnob prog.godebug=none:=by kernel_rfl
theorem Tryz.laidOut:laidOutB prog=true:=by kernel_rfl
theorem ja3(x:Int)(m:Int)(h0:0<m)(h1:m<=9223372036854775807):0<=IntKind.i64.wrap ((IntKind.u64.wrap x).tmod m)/\IntKind.i64.wrap ((IntKind.u64.wrap x).tmod m)<m:=by
 have e:0<=IntKind.u64.wrap x:=by rw[xk];omega
 rw[Int.tmod_eq_emod_of_nonneg e];have a:=Int.emod_nonneg (IntKind.u64.wrap x) (by omega:m≠0);have b:=Int.emod_lt_of_pos (IntKind.u64.wrap x) h0;rw[xw,show(IntKind.u64.wrap x%m+9223372036854775808)%18446744073709551616-9223372036854775808=IntKind.u64.wrap x%m by omega];exact⟨a,b⟩
end Go.Proofs.YtfkngpmgcimdbaaGreat
